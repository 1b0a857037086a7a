import Derived.Test.YtdddcofggemnkaaP16Fns
import Derived.Test.YtdddcofggemnkaaAmK
namespace Go.Proofs.P16
set_option linter.all false
open Go Go.Am
noncomputable section
abbrev CL := Nat → List AV → Mem → Rho
abbrev Y0 := Mem → Rho
abbrev Y1 := AV → Y0
abbrev Y2 := AV → Y1
abbrev Y3 := AV → Y2
abbrev Y4 := AV → Y3
abbrev Y5 := AV → Y4
abbrev Y6 := AV → Y5
abbrev Y7 := AV → Y6
abbrev Y8 := AV → Y7
abbrev Y9 := AV → Y8
abbrev Y10 := AV → Y9
abbrev Y11 := AV → Y10
abbrev Y12 := AV → Y11

-- resolvent/resolventlaw16.PosIff X
def G6_13 (call : CL) (n : Nat) (kn : KN) (kx : KX) (y0 y1 y2 : AV) (m : Mem) : Rho :=
  loadK (some 2) y0 m fun a0 m1 =>
  callK call (.func 26 [] []) false [a0, y1] m1 fun a2 m3 =>
  callK call (.func 26 [] []) false [a2, y2] m3 fun a4 m5 =>
  loadK (some 2) y0 m5 fun a6 m7 =>
  callK call (.func 22 [] []) false [a4, a6] m7 fun a8 m9 =>
  gDK a8 true (fun k => callK call (.func 15 [] []) false [] m9 fun a10 m11 =>
  k a10 m11) m9 fun r12 a13 m14 =>
  pickK a8 (some a13) (some (.bool false)) fun a15 =>
  cond (stayK [m, m3, m5, m9, m14] [(fun m => m.load (some 2) y0, a6, 0, 3, true)]) (kx .ret [(6, a15)] m14) none
theorem g6_13 (call : CL) (n : Nat) (kn : KN) (kx : KX) (y0 y1 y2 : AV) (m : Mem) : evK call n b6_13 [(10, y0), (13, y1), (14, y2)] m kn kx = G6_13 call n kn kx y0 y1 y2 m := by kernel_rfl
def k6_13 (call : CL) (n : Nat) (kn : KN) (kx : KX) : KN := kn
def x6_13 (call : CL) (n : Nat) (kn : KN) (kx : KX) : KX := kx
def S6_13 (call : CL) (n : Nat) (kn : KN) (kx : KX) (y0 y1 y2 : AV) (m : Mem) : Rho := G6_13 call n kn kx y0 y1 y2 m
def d6_13 (call : CL) (n : Nat) (kn : KN) (kx : KX) (y0 y1 y2 : AV) (m : Mem) : Rho := evK call n b6_13 [(10, y0), (13, y1), (14, y2)] m (k6_13 call n kn kx) (x6_13 call n kn kx)
theorem l6_13 {call : CL} {n : Nat} {kn : KN} {kx : KX} : d6_13 call n kn kx = S6_13 call n kn kx := by
  funext y0 y1 y2 m
  have h : d6_13 call n kn kx y0 y1 y2 m = G6_13 call n kn kx y0 y1 y2 m := Eq.mp (by kernel_rfl) (g6_13 call n kn kx y0 y1 y2 m)
  exact h
def G6_10 (call : CL) (n : Nat) (kn : KN) (kx : KX) (y0 y1 y2 y3 y4 : AV) (m : Mem) : Rho :=
  convK .i64 y0 fun a0 =>
  binK .add y4 a0 fun a1 =>
  binK .rem a1 (.int .i64 6) fun a2 =>
  buildSliceK 1 [(.int .i64 0)] 1 false [(0 * 1, 1, AV.untag a2)] m fun a3 m4 =>
  appendK 1 8 0 y2 a3 m4 fun a5 m6 =>
  convK .i64 y0 fun a7 =>
  binK .sub y4 a7 fun a8 =>
  binK .rem a8 (.int .i64 6) fun a9 =>
  binK .add a9 (.int .i64 6) fun a10 =>
  binK .rem a10 (.int .i64 6) fun a11 =>
  buildSliceK 1 [(.int .i64 0)] 1 false [(0 * 1, 1, AV.untag a11)] m6 fun a12 m13 =>
  appendK 1 8 0 y3 a12 m13 fun a14 m15 =>
  binK .add y4 (.int .i64 1) fun a16 =>
  kn [(2, y0), (10, y1), (13, a5), (14, a14), (15, a16)] m15
theorem g6_10 (call : CL) (n : Nat) (kn : KN) (kx : KX) (y0 y1 y2 y3 y4 : AV) (m : Mem) : evK call n b6_10 [(2, y0), (10, y1), (13, y2), (14, y3), (15, y4)] m kn kx = G6_10 call n kn kx y0 y1 y2 y3 y4 m := by kernel_rfl
def k6_10 (call : CL) (n : Nat) (kn : KN) (kx : KX) : KN := kn
def x6_10 (call : CL) (n : Nat) (kn : KN) (kx : KX) : KX := kx
def S6_10 (call : CL) (n : Nat) (kn : KN) (kx : KX) (y0 y1 y2 y3 y4 : AV) (m : Mem) : Rho := G6_10 call n kn kx y0 y1 y2 y3 y4 m
def d6_10 (call : CL) (n : Nat) (kn : KN) (kx : KX) (y0 y1 y2 y3 y4 : AV) (m : Mem) : Rho := evK call n b6_10 [(2, y0), (10, y1), (13, y2), (14, y3), (15, y4)] m (k6_10 call n kn kx) (x6_10 call n kn kx)
theorem l6_10 {call : CL} {n : Nat} {kn : KN} {kx : KX} : d6_10 call n kn kx = S6_10 call n kn kx := by
  funext y0 y1 y2 y3 y4 m
  have h : d6_10 call n kn kx y0 y1 y2 y3 y4 m = G6_10 call n kn kx y0 y1 y2 y3 y4 m := Eq.mp (by kernel_rfl) (g6_10 call n kn kx y0 y1 y2 y3 y4 m)
  exact h
def G6_11 (call : CL) (n : Nat) (kn : KN) (kx : KX) (Q6_10 : Y5) (y0 y1 y2 y3 y4 : AV) (m : Mem) : Rho :=
  binK .lss y4 (.int .i64 6) fun a0 =>
  condK a0
  (Q6_10 y0 y1 y2 y3 y4 m)
  (kx (.ext 4) [(2, y0), (10, y1), (13, y2), (14, y3), (15, y4), (102, a0)] m)
theorem g6_11 (call : CL) (n : Nat) (kn : KN) (kx : KX) (b6_10 : C) (y0 y1 y2 y3 y4 : AV) (m : Mem) : evK call n (c6_11 b6_10) [(2, y0), (10, y1), (13, y2), (14, y3), (15, y4)] m kn kx = G6_11 call n kn kx (fun x0 x1 x2 x3 x4 m => evK call n b6_10 [(2, x0), (10, x1), (13, x2), (14, x3), (15, x4)] m kn kx) y0 y1 y2 y3 y4 m := by kernel_rfl
def S6_11 (call : CL) (n : Nat) (kn : KN) (kx : KX) (y0 y1 y2 y3 y4 : AV) (m : Mem) : Rho := G6_11 call n kn kx (S6_10 call n kn kx) y0 y1 y2 y3 y4 m
def d6_11 (call : CL) (n : Nat) (kn : KN) (kx : KX) (y0 y1 y2 y3 y4 : AV) (m : Mem) : Rho := evK call n b6_11 [(2, y0), (10, y1), (13, y2), (14, y3), (15, y4)] m kn kx
theorem l6_11 {call : CL} {n : Nat} : d6_11 call n = S6_11 call n := by
  funext kn kx y0 y1 y2 y3 y4 m
  have h : d6_11 call n kn kx y0 y1 y2 y3 y4 m = G6_11 call n kn kx (d6_10 call n kn kx) y0 y1 y2 y3 y4 m := Eq.mp (by kernel_rfl) (g6_11 call n kn kx b6_10 y0 y1 y2 y3 y4 m)
  rw [l6_10] at h; exact h
def G6_14 (call : CL) (n : Nat) (kn : KN) (kx : KX) (B6_11 : KN → KX → Y5) (Q6_13 : Y3) (y0 y1 : AV) (m : Mem) : Rho :=
  tipK 1 m fun a0 m1 =>
  tipK 1 m1 fun a2 m3 =>
  loopV [2, 10, 13, 14, 15] none (fun vs m kn kx => unc vs fun x0 vs => unc vs fun x1 vs => unc vs fun x2 vs => unc vs fun x3 vs => unc vs fun x4 vs => unz vs (B6_11 kn kx x0 x1 x2 x3 x4 m)) (blkK 4 (fun e m => keepK e [10, 13, 14] fun vs => unc vs fun x0 vs => unc vs fun x1 vs => unc vs fun x2 vs => unz vs (Q6_13 x0 x1 x2 m)) kx) n [y0, y1, a0, a2, (.int .i64 0)] m3
theorem g6_14 (call : CL) (n : Nat) (kn : KN) (kx : KX) (b6_11 : C) (b6_13 : C) (y0 y1 : AV) (m : Mem) : evK call n (c6_14 b6_11 b6_13) [(2, y0), (10, y1)] m kn kx = G6_14 call n kn kx (fun kn kx x0 x1 x2 x3 x4 m => evK call n b6_11 [(2, x0), (10, x1), (13, x2), (14, x3), (15, x4)] m kn kx) (fun x0 x1 x2 m => evK call n b6_13 [(10, x0), (13, x1), (14, x2)] m kn kx) y0 y1 m := by kernel_rfl
def k6_14 (call : CL) (n : Nat) (kn : KN) (kx : KX) : KN := kn
def x6_14 (call : CL) (n : Nat) (kn : KN) (kx : KX) : KX := kx
def S6_14 (call : CL) (n : Nat) (kn : KN) (kx : KX) (y0 y1 : AV) (m : Mem) : Rho := G6_14 call n kn kx (S6_11 call n) (S6_13 call n kn kx) y0 y1 m
def d6_14 (call : CL) (n : Nat) (kn : KN) (kx : KX) (y0 y1 : AV) (m : Mem) : Rho := evK call n b6_14 [(2, y0), (10, y1)] m (k6_14 call n kn kx) (x6_14 call n kn kx)
theorem l6_14 {call : CL} {n : Nat} {kn : KN} {kx : KX} : d6_14 call n kn kx = S6_14 call n kn kx := by
  funext y0 y1 m
  have h : d6_14 call n kn kx y0 y1 m = G6_14 call n kn kx (d6_11 call n) (d6_13 call n kn kx) y0 y1 m := Eq.mp (by kernel_rfl) (g6_14 call n kn kx b6_11 b6_13 y0 y1 m)
  rw [l6_11, l6_13] at h; exact h
def G6_15 (call : CL) (n : Nat) (kn : KN) (kx : KX) (Q6_14 : Y2) (y0 y1 y2 y3 y4 : AV) (m : Mem) : Rho :=
  loadK (some 2) y4 m fun a0 m1 =>
  loadK (some 2) y3 m1 fun a2 m3 =>
  callK call (.func 11 [] []) false [a0, a2] m3 fun a4 m5 =>
  callK call (.func 19 [] []) false [a4, y0] m5 fun a6 m7 =>
  unK .not a6 fun a8 =>
  gK a8 false (fun k => k y1 m7) m7 fun a9 m10 =>
  gK a8 false (fun k => vK (aLen m10 1 a9) m10 fun a11 m12 =>
  k a11 m12) m10 fun a13 m14 =>
  gK a8 false (fun k => binK .eql a13 (.int .i64 0) fun a15 =>
  k a15 m14) m14 fun a16 m17 =>
  gK a8 false (fun k => k a16 m17) m17 fun a18 m19 =>
  gK a18 true (fun k => loadK (some 2) y4 m19 fun a20 m21 =>
  k a20 m21) m19 fun a22 m23 =>
  gK a18 true (fun k => k y0 m23) m23 fun a24 m25 =>
  gK a18 true (fun k => callK call (.func 19 [] []) false [a22, a24] m25 fun a26 m27 =>
  k a26 m27) m25 fun a28 m29 =>
  gK a18 true (fun k => unK .not a28 fun a30 =>
  k a30 m29) m29 fun a31 m32 =>
  gK a8 false (fun k => pickK a18 (some a31) (some (.bool false)) fun a33 =>
  k a33 m32) m32 fun a34 m35 =>
  pickK a8 (some (.bool true)) (some a34) fun a36 =>
  condK a36
  (kx .ret [(6, (.bool false))] m35)
  (Q6_14 y2 y4 m35)
theorem g6_15 (call : CL) (n : Nat) (kn : KN) (kx : KX) (b6_14 : C) (y0 y1 y2 y3 y4 : AV) (m : Mem) : evK call n (c6_15 b6_14) [(0, y0), (1, y1), (2, y2), (7, y3), (10, y4)] m kn kx = G6_15 call n kn kx (fun x0 x1 m => evK call n b6_14 [(2, x0), (10, x1)] m kn kx) y0 y1 y2 y3 y4 m := by kernel_rfl
def k6_15 (call : CL) (n : Nat) (kn : KN) (kx : KX) : KN := kn
def x6_15 (call : CL) (n : Nat) (kn : KN) (kx : KX) : KX := kx
def S6_15 (call : CL) (n : Nat) (kn : KN) (kx : KX) (y0 y1 y2 y3 y4 : AV) (m : Mem) : Rho := G6_15 call n kn kx (S6_14 call n kn kx) y0 y1 y2 y3 y4 m
def d6_15 (call : CL) (n : Nat) (kn : KN) (kx : KX) (y0 y1 y2 y3 y4 : AV) (m : Mem) : Rho := evK call n b6_15 [(0, y0), (1, y1), (2, y2), (7, y3), (10, y4)] m (k6_15 call n kn kx) (x6_15 call n kn kx)
theorem l6_15 {call : CL} {n : Nat} {kn : KN} {kx : KX} : d6_15 call n kn kx = S6_15 call n kn kx := by
  funext y0 y1 y2 y3 y4 m
  have h : d6_15 call n kn kx y0 y1 y2 y3 y4 m = G6_15 call n kn kx (d6_14 call n kn kx) y0 y1 y2 y3 y4 m := Eq.mp (by kernel_rfl) (g6_15 call n kn kx b6_14 y0 y1 y2 y3 y4 m)
  rw [l6_14] at h; exact h
def G6_7 (call : CL) (n : Nat) (kn : KN) (kx : KX) (y0 y1 y2 y3 y4 y5 y6 : AV) (m : Mem) : Rho :=
  binK .add y6 (.int .i64 1) fun a0 =>
  kn [(0, y0), (1, y1), (2, y2), (7, y3), (10, y4), (11, y5), (12, a0)] m
theorem g6_7 (call : CL) (n : Nat) (kn : KN) (kx : KX) (y0 y1 y2 y3 y4 y5 y6 : AV) (m : Mem) : evK call n b6_7 [(0, y0), (1, y1), (2, y2), (7, y3), (10, y4), (11, y5), (12, y6)] m kn kx = G6_7 call n kn kx y0 y1 y2 y3 y4 y5 y6 m := by kernel_rfl
def k6_7 (call : CL) (n : Nat) (kn : KN) (kx : KX) : KN := kn
def x6_7 (call : CL) (n : Nat) (kn : KN) (kx : KX) : KX := kx
def S6_7 (call : CL) (n : Nat) (kn : KN) (kx : KX) (y0 y1 y2 y3 y4 y5 y6 : AV) (m : Mem) : Rho := G6_7 call n kn kx y0 y1 y2 y3 y4 y5 y6 m
def d6_7 (call : CL) (n : Nat) (kn : KN) (kx : KX) (y0 y1 y2 y3 y4 y5 y6 : AV) (m : Mem) : Rho := evK call n b6_7 [(0, y0), (1, y1), (2, y2), (7, y3), (10, y4), (11, y5), (12, y6)] m (k6_7 call n kn kx) (x6_7 call n kn kx)
theorem l6_7 {call : CL} {n : Nat} {kn : KN} {kx : KX} : d6_7 call n kn kx = S6_7 call n kn kx := by
  funext y0 y1 y2 y3 y4 y5 y6 m
  have h : d6_7 call n kn kx y0 y1 y2 y3 y4 y5 y6 m = G6_7 call n kn kx y0 y1 y2 y3 y4 y5 y6 m := Eq.mp (by kernel_rfl) (g6_7 call n kn kx y0 y1 y2 y3 y4 y5 y6 m)
  exact h
def G6_8 (call : CL) (n : Nat) (kn : KN) (kx : KX) (Q6_7 : Y7) (y0 y1 y2 y3 y4 y5 y6 : AV) (m : Mem) : Rho :=
  loadK (some 2) y5 m fun a0 m1 =>
  vK (aIndexAddr m1 1 y1 y6) m1 fun a2 m3 =>
  loadK none a2 m3 fun a4 m5 =>
  callK call (.func 19 [] []) false [a0, a4] m5 fun a6 m7 =>
  unK .not a6 fun a8 =>
  cond (stayK [m, m7] []) (condK a8
  (kx .ret [(6, (.bool false))] m7)
  (Q6_7 y0 y1 y2 y3 y4 y5 y6 m7)) none
theorem g6_8 (call : CL) (n : Nat) (kn : KN) (kx : KX) (b6_7 : C) (y0 y1 y2 y3 y4 y5 y6 : AV) (m : Mem) : evK call n (c6_8 b6_7) [(0, y0), (1, y1), (2, y2), (7, y3), (10, y4), (11, y5), (12, y6)] m kn kx = G6_8 call n kn kx (fun x0 x1 x2 x3 x4 x5 x6 m => evK call n b6_7 [(0, x0), (1, x1), (2, x2), (7, x3), (10, x4), (11, x5), (12, x6)] m kn kx) y0 y1 y2 y3 y4 y5 y6 m := by kernel_rfl
def k6_8 (call : CL) (n : Nat) (kn : KN) (kx : KX) : KN := kn
def x6_8 (call : CL) (n : Nat) (kn : KN) (kx : KX) : KX := kx
def S6_8 (call : CL) (n : Nat) (kn : KN) (kx : KX) (y0 y1 y2 y3 y4 y5 y6 : AV) (m : Mem) : Rho := G6_8 call n kn kx (S6_7 call n kn kx) y0 y1 y2 y3 y4 y5 y6 m
def d6_8 (call : CL) (n : Nat) (kn : KN) (kx : KX) (y0 y1 y2 y3 y4 y5 y6 : AV) (m : Mem) : Rho := evK call n b6_8 [(0, y0), (1, y1), (2, y2), (7, y3), (10, y4), (11, y5), (12, y6)] m (k6_8 call n kn kx) (x6_8 call n kn kx)
theorem l6_8 {call : CL} {n : Nat} {kn : KN} {kx : KX} : d6_8 call n kn kx = S6_8 call n kn kx := by
  funext y0 y1 y2 y3 y4 y5 y6 m
  have h : d6_8 call n kn kx y0 y1 y2 y3 y4 y5 y6 m = G6_8 call n kn kx (d6_7 call n kn kx) y0 y1 y2 y3 y4 y5 y6 m := Eq.mp (by kernel_rfl) (g6_8 call n kn kx b6_7 y0 y1 y2 y3 y4 y5 y6 m)
  rw [l6_7] at h; exact h
def G6_9 (call : CL) (n : Nat) (kn : KN) (kx : KX) (Q6_8 : Y7) (y0 y1 y2 y3 y4 y5 y6 : AV) (m : Mem) : Rho :=
  vK (aLen m 1 y1) m fun a0 m1 =>
  binK .lss y6 a0 fun a2 =>
  condK a2
  (Q6_8 y0 y1 y2 y3 y4 y5 y6 m1)
  (kx (.ext 2) [(0, y0), (1, y1), (2, y2), (7, y3), (10, y4), (11, y5), (12, y6), (74, a2)] m1)
theorem g6_9 (call : CL) (n : Nat) (kn : KN) (kx : KX) (b6_8 : C) (y0 y1 y2 y3 y4 y5 y6 : AV) (m : Mem) : evK call n (c6_9 b6_8) [(0, y0), (1, y1), (2, y2), (7, y3), (10, y4), (11, y5), (12, y6)] m kn kx = G6_9 call n kn kx (fun x0 x1 x2 x3 x4 x5 x6 m => evK call n b6_8 [(0, x0), (1, x1), (2, x2), (7, x3), (10, x4), (11, x5), (12, x6)] m kn kx) y0 y1 y2 y3 y4 y5 y6 m := by kernel_rfl
def S6_9 (call : CL) (n : Nat) (kn : KN) (kx : KX) (y0 y1 y2 y3 y4 y5 y6 : AV) (m : Mem) : Rho := G6_9 call n kn kx (S6_8 call n kn kx) y0 y1 y2 y3 y4 y5 y6 m
def d6_9 (call : CL) (n : Nat) (kn : KN) (kx : KX) (y0 y1 y2 y3 y4 y5 y6 : AV) (m : Mem) : Rho := evK call n b6_9 [(0, y0), (1, y1), (2, y2), (7, y3), (10, y4), (11, y5), (12, y6)] m kn kx
theorem l6_9 {call : CL} {n : Nat} : d6_9 call n = S6_9 call n := by
  funext kn kx y0 y1 y2 y3 y4 y5 y6 m
  have h : d6_9 call n kn kx y0 y1 y2 y3 y4 y5 y6 m = G6_9 call n kn kx (d6_8 call n kn kx) y0 y1 y2 y3 y4 y5 y6 m := Eq.mp (by kernel_rfl) (g6_9 call n kn kx b6_8 y0 y1 y2 y3 y4 y5 y6 m)
  rw [l6_8] at h; exact h
def G6_16 (call : CL) (n : Nat) (kn : KN) (kx : KX) (B6_9 : KN → KX → Y7) (Q6_15 : Y5) (y0 y1 y2 y3 y4 y5 : AV) (m : Mem) : Rho :=
  loopV [0, 1, 2, 7, 10, 11, 12] none (fun vs m kn kx => unc vs fun x0 vs => unc vs fun x1 vs => unc vs fun x2 vs => unc vs fun x3 vs => unc vs fun x4 vs => unc vs fun x5 vs => unc vs fun x6 vs => unz vs (B6_9 kn kx x0 x1 x2 x3 x4 x5 x6 m)) (blkK 2 (fun e m => keepK e [0, 1, 2, 7, 10] fun vs => unc vs fun x0 vs => unc vs fun x1 vs => unc vs fun x2 vs => unc vs fun x3 vs => unc vs fun x4 vs => unz vs (Q6_15 x0 x1 x2 x3 x4 m)) kx) n [y0, y1, y2, y3, y4, y5, (.int .i64 0)] m
theorem g6_16 (call : CL) (n : Nat) (kn : KN) (kx : KX) (b6_9 : C) (b6_15 : C) (y0 y1 y2 y3 y4 y5 : AV) (m : Mem) : evK call n (c6_16 b6_9 b6_15) [(0, y0), (1, y1), (2, y2), (7, y3), (10, y4), (11, y5)] m kn kx = G6_16 call n kn kx (fun kn kx x0 x1 x2 x3 x4 x5 x6 m => evK call n b6_9 [(0, x0), (1, x1), (2, x2), (7, x3), (10, x4), (11, x5), (12, x6)] m kn kx) (fun x0 x1 x2 x3 x4 m => evK call n b6_15 [(0, x0), (1, x1), (2, x2), (7, x3), (10, x4)] m kn kx) y0 y1 y2 y3 y4 y5 m := by kernel_rfl
def k6_16 (call : CL) (n : Nat) (kn : KN) (kx : KX) : KN := kn
def x6_16 (call : CL) (n : Nat) (kn : KN) (kx : KX) : KX := kx
def S6_16 (call : CL) (n : Nat) (kn : KN) (kx : KX) (y0 y1 y2 y3 y4 y5 : AV) (m : Mem) : Rho := G6_16 call n kn kx (S6_9 call n) (S6_15 call n kn kx) y0 y1 y2 y3 y4 y5 m
def d6_16 (call : CL) (n : Nat) (kn : KN) (kx : KX) (y0 y1 y2 y3 y4 y5 : AV) (m : Mem) : Rho := evK call n b6_16 [(0, y0), (1, y1), (2, y2), (7, y3), (10, y4), (11, y5)] m (k6_16 call n kn kx) (x6_16 call n kn kx)
theorem l6_16 {call : CL} {n : Nat} {kn : KN} {kx : KX} : d6_16 call n kn kx = S6_16 call n kn kx := by
  funext y0 y1 y2 y3 y4 y5 m
  have h : d6_16 call n kn kx y0 y1 y2 y3 y4 y5 m = G6_16 call n kn kx (d6_9 call n) (d6_15 call n kn kx) y0 y1 y2 y3 y4 y5 m := Eq.mp (by kernel_rfl) (g6_16 call n kn kx b6_9 b6_15 y0 y1 y2 y3 y4 y5 m)
  rw [l6_9, l6_15] at h; exact h
def G6_17 (call : CL) (n : Nat) (kn : KN) (kx : KX) (Q6_16 : Y6) (y0 y1 y2 y3 y4 : AV) (m : Mem) : Rho :=
  loadK (some 2) y4 m fun a0 m1 =>
  callK call (.func 25 [] []) false [y0] m1 fun a2 m3 =>
  callK call (.func 11 [] []) false [a0, a2] m3 fun a4 m5 =>
  newK [(.list .full 0 []), (.bool false)] m5 fun a6 m7 =>
  storeK 2 a6 a4 m7 fun a8 m9 =>
  cond (stayK [m, m3, m5, m7, m9] [(fun m => m.load (some 2) y4, a0, 0, 1000001, true)]) (Q6_16 y0 y1 y2 y3 y4 a6 m9) none
theorem g6_17 (call : CL) (n : Nat) (kn : KN) (kx : KX) (b6_16 : C) (y0 y1 y2 y3 y4 : AV) (m : Mem) : evK call n (c6_17 b6_16) [(0, y0), (1, y1), (2, y2), (7, y3), (10, y4)] m kn kx = G6_17 call n kn kx (fun x0 x1 x2 x3 x4 x5 m => evK call n b6_16 [(0, x0), (1, x1), (2, x2), (7, x3), (10, x4), (11, x5)] m kn kx) y0 y1 y2 y3 y4 m := by kernel_rfl
def k6_17 (call : CL) (n : Nat) (kn : KN) (kx : KX) : KN := kn
def x6_17 (call : CL) (n : Nat) (kn : KN) (kx : KX) : KX := kx
def S6_17 (call : CL) (n : Nat) (kn : KN) (kx : KX) (y0 y1 y2 y3 y4 : AV) (m : Mem) : Rho := G6_17 call n kn kx (S6_16 call n kn kx) y0 y1 y2 y3 y4 m
def d6_17 (call : CL) (n : Nat) (kn : KN) (kx : KX) (y0 y1 y2 y3 y4 : AV) (m : Mem) : Rho := evK call n b6_17 [(0, y0), (1, y1), (2, y2), (7, y3), (10, y4)] m (k6_17 call n kn kx) (x6_17 call n kn kx)
theorem l6_17 {call : CL} {n : Nat} {kn : KN} {kx : KX} : d6_17 call n kn kx = S6_17 call n kn kx := by
  funext y0 y1 y2 y3 y4 m
  have h : d6_17 call n kn kx y0 y1 y2 y3 y4 m = G6_17 call n kn kx (d6_16 call n kn kx) y0 y1 y2 y3 y4 m := Eq.mp (by kernel_rfl) (g6_17 call n kn kx b6_16 y0 y1 y2 y3 y4 m)
  rw [l6_16] at h; exact h
def G6_18 (call : CL) (n : Nat) (kn : KN) (kx : KX) (Q6_17 : Y5) (y0 y1 y2 y3 : AV) (m : Mem) : Rho :=
  callK call (.func 12 [] []) false [y0, y1] m fun a0 m1 =>
  newK [(.list .full 0 []), (.bool false)] m1 fun a2 m3 =>
  storeK 2 a2 a0 m3 fun a4 m5 =>
  Q6_17 y0 y1 y2 y3 a2 m5
theorem g6_18 (call : CL) (n : Nat) (kn : KN) (kx : KX) (b6_17 : C) (y0 y1 y2 y3 : AV) (m : Mem) : evK call n (c6_18 b6_17) [(0, y0), (1, y1), (2, y2), (7, y3)] m kn kx = G6_18 call n kn kx (fun x0 x1 x2 x3 x4 m => evK call n b6_17 [(0, x0), (1, x1), (2, x2), (7, x3), (10, x4)] m kn kx) y0 y1 y2 y3 m := by kernel_rfl
def k6_18 (call : CL) (n : Nat) (kn : KN) (kx : KX) : KN := kn
def x6_18 (call : CL) (n : Nat) (kn : KN) (kx : KX) : KX := kx
def S6_18 (call : CL) (n : Nat) (kn : KN) (kx : KX) (y0 y1 y2 y3 : AV) (m : Mem) : Rho := G6_18 call n kn kx (S6_17 call n kn kx) y0 y1 y2 y3 m
def d6_18 (call : CL) (n : Nat) (kn : KN) (kx : KX) (y0 y1 y2 y3 : AV) (m : Mem) : Rho := evK call n b6_18 [(0, y0), (1, y1), (2, y2), (7, y3)] m (k6_18 call n kn kx) (x6_18 call n kn kx)
theorem l6_18 {call : CL} {n : Nat} {kn : KN} {kx : KX} : d6_18 call n kn kx = S6_18 call n kn kx := by
  funext y0 y1 y2 y3 m
  have h : d6_18 call n kn kx y0 y1 y2 y3 m = G6_18 call n kn kx (d6_17 call n kn kx) y0 y1 y2 y3 m := Eq.mp (by kernel_rfl) (g6_18 call n kn kx b6_17 y0 y1 y2 y3 m)
  rw [l6_17] at h; exact h
def G6_2 (call : CL) (n : Nat) (kn : KN) (kx : KX) (y0 y1 y2 y3 y4 y5 : AV) (m : Mem) : Rho :=
  binK .add y5 (.int .i64 1) fun a0 =>
  kn [(0, y0), (1, y1), (2, y2), (7, y3), (8, y4), (9, a0)] m
theorem g6_2 (call : CL) (n : Nat) (kn : KN) (kx : KX) (y0 y1 y2 y3 y4 y5 : AV) (m : Mem) : evK call n b6_2 [(0, y0), (1, y1), (2, y2), (7, y3), (8, y4), (9, y5)] m kn kx = G6_2 call n kn kx y0 y1 y2 y3 y4 y5 m := by kernel_rfl
def k6_2 (call : CL) (n : Nat) (kn : KN) (kx : KX) : KN := kn
def x6_2 (call : CL) (n : Nat) (kn : KN) (kx : KX) : KX := kx
def S6_2 (call : CL) (n : Nat) (kn : KN) (kx : KX) (y0 y1 y2 y3 y4 y5 : AV) (m : Mem) : Rho := G6_2 call n kn kx y0 y1 y2 y3 y4 y5 m
def d6_2 (call : CL) (n : Nat) (kn : KN) (kx : KX) (y0 y1 y2 y3 y4 y5 : AV) (m : Mem) : Rho := evK call n b6_2 [(0, y0), (1, y1), (2, y2), (7, y3), (8, y4), (9, y5)] m (k6_2 call n kn kx) (x6_2 call n kn kx)
theorem l6_2 {call : CL} {n : Nat} {kn : KN} {kx : KX} : d6_2 call n kn kx = S6_2 call n kn kx := by
  funext y0 y1 y2 y3 y4 y5 m
  have h : d6_2 call n kn kx y0 y1 y2 y3 y4 y5 m = G6_2 call n kn kx y0 y1 y2 y3 y4 y5 m := Eq.mp (by kernel_rfl) (g6_2 call n kn kx y0 y1 y2 y3 y4 y5 m)
  exact h
def G6_1 (call : CL) (n : Nat) (kn : KN) (kx : KX) (Q6_2 : Y6) (y0 y1 y2 y3 y4 y5 : AV) (m : Mem) : Rho :=
  loadK (some 2) y3 m fun a0 m1 =>
  vK (aIndexAddr m1 1 y1 y5) m1 fun a2 m3 =>
  loadK none a2 m3 fun a4 m5 =>
  callK call (.func 25 [] []) false [a4] m5 fun a6 m7 =>
  callK call (.func 11 [] []) false [a0, a6] m7 fun a8 m9 =>
  storeK 2 y3 a8 m9 fun a10 m11 =>
  cond (stayK [m, m7, m9, m11] [(fun m => m.load (some 2) y3, a0, 0, 2, true)]) (gK y4 false (fun k => k y1 m11) m11 fun a12 m13 =>
  gK y4 false (fun k => k y5 m13) m13 fun a14 m15 =>
  gK y4 false (fun k => vK (aIndexAddr m15 1 a12 a14) m15 fun a16 m17 =>
  k a16 m17) m15 fun a18 m19 =>
  gK y4 false (fun k => loadK none a18 m19 fun a20 m21 =>
  k a20 m21) m19 fun a22 m23 =>
  gK y4 false (fun k => k y0 m23) m23 fun a24 m25 =>
  gK y4 false (fun k => binK .eql a22 a24 fun a26 =>
  k a26 m25) m25 fun a27 m28 =>
  pickK y4 (some (.bool true)) (some a27) fun a29 =>
  Q6_2 y0 y1 y2 y3 a29 y5 m28) none
theorem g6_1 (call : CL) (n : Nat) (kn : KN) (kx : KX) (b6_2 : C) (k6_2 : KN) (x6_2 : KX) (y0 y1 y2 y3 y4 y5 : AV) (m : Mem) : evK call n b6_1 [(0, y0), (1, y1), (2, y2), (7, y3), (8, y4), (9, y5)] m (jn call n [0, 1, 2, 7, 8, 9] b6_2 k6_2 x6_2) (blkK 1 (jn call n [0, 1, 2, 7, 8, 9] b6_2 k6_2 x6_2) kx) = G6_1 call n kn kx (fun x0 x1 x2 x3 x4 x5 m => evK call n b6_2 [(0, x0), (1, x1), (2, x2), (7, x3), (8, x4), (9, x5)] m k6_2 x6_2) y0 y1 y2 y3 y4 y5 m := by kernel_rfl
def k6_1 (call : CL) (n : Nat) (kn : KN) (kx : KX) : KN := (jn call n [0, 1, 2, 7, 8, 9] b6_2 (k6_2 call n kn kx) (x6_2 call n kn kx))
def x6_1 (call : CL) (n : Nat) (kn : KN) (kx : KX) : KX := (blkK 1 (jn call n [0, 1, 2, 7, 8, 9] b6_2 (k6_2 call n kn kx) (x6_2 call n kn kx)) kx)
def S6_1 (call : CL) (n : Nat) (kn : KN) (kx : KX) (y0 y1 y2 y3 y4 y5 : AV) (m : Mem) : Rho := G6_1 call n kn kx (S6_2 call n kn kx) y0 y1 y2 y3 y4 y5 m
def d6_1 (call : CL) (n : Nat) (kn : KN) (kx : KX) (y0 y1 y2 y3 y4 y5 : AV) (m : Mem) : Rho := evK call n b6_1 [(0, y0), (1, y1), (2, y2), (7, y3), (8, y4), (9, y5)] m (k6_1 call n kn kx) (x6_1 call n kn kx)
theorem l6_1 {call : CL} {n : Nat} {kn : KN} {kx : KX} : d6_1 call n kn kx = S6_1 call n kn kx := by
  funext y0 y1 y2 y3 y4 y5 m
  have h : d6_1 call n kn kx y0 y1 y2 y3 y4 y5 m = G6_1 call n kn kx (d6_2 call n kn kx) y0 y1 y2 y3 y4 y5 m := Eq.mp (by kernel_rfl) (g6_1 call n kn kx b6_2 (k6_2 call n kn kx) (x6_2 call n kn kx) y0 y1 y2 y3 y4 y5 m)
  rw [l6_2] at h; exact h
def G6_3 (call : CL) (n : Nat) (kn : KN) (kx : KX) (Q6_1 : Y6) (y0 y1 y2 y3 y4 y5 : AV) (m : Mem) : Rho :=
  vK (aIndexAddr m 1 y1 y5) m fun a0 m1 =>
  loadK none a0 m1 fun a2 m3 =>
  binK .lss a2 (.int .i64 0) fun a4 =>
  gK a4 false (fun k => k y1 m3) m3 fun a5 m6 =>
  gK a4 false (fun k => k y5 m6) m6 fun a7 m8 =>
  gK a4 false (fun k => vK (aIndexAddr m8 1 a5 a7) m8 fun a9 m10 =>
  k a9 m10) m8 fun a11 m12 =>
  gK a4 false (fun k => loadK none a11 m12 fun a13 m14 =>
  k a13 m14) m12 fun a15 m16 =>
  gK a4 false (fun k => binK .gtr a15 (.int .i64 5) fun a17 =>
  k a17 m16) m16 fun a18 m19 =>
  pickK a4 (some (.bool true)) (some a18) fun a20 =>
  condK a20
  (callK call (.func 15 [] []) false [] m19 fun a21 m22 =>
  kx .ret [(6, a21)] m22)
  (Q6_1 y0 y1 y2 y3 y4 y5 m19)
theorem g6_3 (call : CL) (n : Nat) (kn : KN) (kx : KX) (b6_1 : C) (b6_2 : C) (y0 y1 y2 y3 y4 y5 : AV) (m : Mem) : evK call n (c6_3 b6_1 b6_2) [(0, y0), (1, y1), (2, y2), (7, y3), (8, y4), (9, y5)] m kn kx = G6_3 call n kn kx (fun x0 x1 x2 x3 x4 x5 m => evK call n b6_1 [(0, x0), (1, x1), (2, x2), (7, x3), (8, x4), (9, x5)] m (jn call n [0, 1, 2, 7, 8, 9] b6_2 kn kx) (blkK 1 (jn call n [0, 1, 2, 7, 8, 9] b6_2 kn kx) kx)) y0 y1 y2 y3 y4 y5 m := by kernel_rfl
def k6_3 (call : CL) (n : Nat) (kn : KN) (kx : KX) : KN := kn
def x6_3 (call : CL) (n : Nat) (kn : KN) (kx : KX) : KX := kx
def S6_3 (call : CL) (n : Nat) (kn : KN) (kx : KX) (y0 y1 y2 y3 y4 y5 : AV) (m : Mem) : Rho := G6_3 call n kn kx (S6_1 call n kn kx) y0 y1 y2 y3 y4 y5 m
def d6_3 (call : CL) (n : Nat) (kn : KN) (kx : KX) (y0 y1 y2 y3 y4 y5 : AV) (m : Mem) : Rho := evK call n b6_3 [(0, y0), (1, y1), (2, y2), (7, y3), (8, y4), (9, y5)] m (k6_3 call n kn kx) (x6_3 call n kn kx)
theorem l6_3 {call : CL} {n : Nat} {kn : KN} {kx : KX} : d6_3 call n kn kx = S6_3 call n kn kx := by
  funext y0 y1 y2 y3 y4 y5 m
  have h : d6_3 call n kn kx y0 y1 y2 y3 y4 y5 m = G6_3 call n kn kx (d6_1 call n kn kx) y0 y1 y2 y3 y4 y5 m := Eq.mp (by kernel_rfl) (g6_3 call n kn kx b6_1 b6_2 y0 y1 y2 y3 y4 y5 m)
  rw [l6_1] at h; exact h
def G6_4 (call : CL) (n : Nat) (kn : KN) (kx : KX) (Q6_3 : Y6) (y0 y1 y2 y3 y4 y5 : AV) (m : Mem) : Rho :=
  vK (aLen m 1 y1) m fun a0 m1 =>
  binK .lss y5 a0 fun a2 =>
  condK a2
  (Q6_3 y0 y1 y2 y3 y4 y5 m1)
  (kx (.ext 0) [(0, y0), (1, y1), (2, y2), (7, y3), (8, y4), (9, y5), (32, a2)] m1)
theorem g6_4 (call : CL) (n : Nat) (kn : KN) (kx : KX) (b6_3 : C) (y0 y1 y2 y3 y4 y5 : AV) (m : Mem) : evK call n (c6_4 b6_3) [(0, y0), (1, y1), (2, y2), (7, y3), (8, y4), (9, y5)] m kn kx = G6_4 call n kn kx (fun x0 x1 x2 x3 x4 x5 m => evK call n b6_3 [(0, x0), (1, x1), (2, x2), (7, x3), (8, x4), (9, x5)] m kn kx) y0 y1 y2 y3 y4 y5 m := by kernel_rfl
def S6_4 (call : CL) (n : Nat) (kn : KN) (kx : KX) (y0 y1 y2 y3 y4 y5 : AV) (m : Mem) : Rho := G6_4 call n kn kx (S6_3 call n kn kx) y0 y1 y2 y3 y4 y5 m
def d6_4 (call : CL) (n : Nat) (kn : KN) (kx : KX) (y0 y1 y2 y3 y4 y5 : AV) (m : Mem) : Rho := evK call n b6_4 [(0, y0), (1, y1), (2, y2), (7, y3), (8, y4), (9, y5)] m kn kx
theorem l6_4 {call : CL} {n : Nat} : d6_4 call n = S6_4 call n := by
  funext kn kx y0 y1 y2 y3 y4 y5 m
  have h : d6_4 call n kn kx y0 y1 y2 y3 y4 y5 m = G6_4 call n kn kx (d6_3 call n kn kx) y0 y1 y2 y3 y4 y5 m := Eq.mp (by kernel_rfl) (g6_4 call n kn kx b6_3 y0 y1 y2 y3 y4 y5 m)
  rw [l6_3] at h; exact h
def G6_19 (call : CL) (n : Nat) (kn : KN) (kx : KX) (B6_4 : KN → KX → Y6) (Q6_18 : Y4) (y0 y1 y2 y3 y4 : AV) (m : Mem) : Rho :=
  loopV [0, 1, 2, 7, 8, 9] none (fun vs m kn kx => unc vs fun x0 vs => unc vs fun x1 vs => unc vs fun x2 vs => unc vs fun x3 vs => unc vs fun x4 vs => unc vs fun x5 vs => unz vs (B6_4 kn kx x0 x1 x2 x3 x4 x5 m)) (blkK 0 (fun e m => keepK e [0, 1, 2, 7] fun vs => unc vs fun x0 vs => unc vs fun x1 vs => unc vs fun x2 vs => unc vs fun x3 vs => unz vs (Q6_18 x0 x1 x2 x3 m)) kx) n [y0, y1, y2, y3, y4, (.int .i64 0)] m
theorem g6_19 (call : CL) (n : Nat) (kn : KN) (kx : KX) (b6_4 : C) (b6_18 : C) (y0 y1 y2 y3 y4 : AV) (m : Mem) : evK call n (c6_19 b6_4 b6_18) [(0, y0), (1, y1), (2, y2), (7, y3), (8, y4)] m kn kx = G6_19 call n kn kx (fun kn kx x0 x1 x2 x3 x4 x5 m => evK call n b6_4 [(0, x0), (1, x1), (2, x2), (7, x3), (8, x4), (9, x5)] m kn kx) (fun x0 x1 x2 x3 m => evK call n b6_18 [(0, x0), (1, x1), (2, x2), (7, x3)] m kn kx) y0 y1 y2 y3 y4 m := by kernel_rfl
def k6_19 (call : CL) (n : Nat) (kn : KN) (kx : KX) : KN := kn
def x6_19 (call : CL) (n : Nat) (kn : KN) (kx : KX) : KX := kx
def S6_19 (call : CL) (n : Nat) (kn : KN) (kx : KX) (y0 y1 y2 y3 y4 : AV) (m : Mem) : Rho := G6_19 call n kn kx (S6_4 call n) (S6_18 call n kn kx) y0 y1 y2 y3 y4 m
def d6_19 (call : CL) (n : Nat) (kn : KN) (kx : KX) (y0 y1 y2 y3 y4 : AV) (m : Mem) : Rho := evK call n b6_19 [(0, y0), (1, y1), (2, y2), (7, y3), (8, y4)] m (k6_19 call n kn kx) (x6_19 call n kn kx)
theorem l6_19 {call : CL} {n : Nat} {kn : KN} {kx : KX} : d6_19 call n kn kx = S6_19 call n kn kx := by
  funext y0 y1 y2 y3 y4 m
  have h : d6_19 call n kn kx y0 y1 y2 y3 y4 m = G6_19 call n kn kx (d6_4 call n) (d6_18 call n kn kx) y0 y1 y2 y3 y4 m := Eq.mp (by kernel_rfl) (g6_19 call n kn kx b6_4 b6_18 y0 y1 y2 y3 y4 m)
  rw [l6_4, l6_18] at h; exact h
def G6_20 (call : CL) (n : Nat) (kn : KN) (kx : KX) (Q6_19 : Y5) (y0 y1 y2 y3 : AV) (m : Mem) : Rho :=
  Q6_19 y0 y1 y2 y3 (.bool false) m
theorem g6_20 (call : CL) (n : Nat) (kn : KN) (kx : KX) (b6_19 : C) (y0 y1 y2 y3 : AV) (m : Mem) : evK call n (c6_20 b6_19) [(0, y0), (1, y1), (2, y2), (7, y3)] m kn kx = G6_20 call n kn kx (fun x0 x1 x2 x3 x4 m => evK call n b6_19 [(0, x0), (1, x1), (2, x2), (7, x3), (8, x4)] m kn kx) y0 y1 y2 y3 m := by kernel_rfl
def k6_20 (call : CL) (n : Nat) (kn : KN) (kx : KX) : KN := kn
def x6_20 (call : CL) (n : Nat) (kn : KN) (kx : KX) : KX := kx
def S6_20 (call : CL) (n : Nat) (kn : KN) (kx : KX) (y0 y1 y2 y3 : AV) (m : Mem) : Rho := G6_20 call n kn kx (S6_19 call n kn kx) y0 y1 y2 y3 m
def d6_20 (call : CL) (n : Nat) (kn : KN) (kx : KX) (y0 y1 y2 y3 : AV) (m : Mem) : Rho := evK call n b6_20 [(0, y0), (1, y1), (2, y2), (7, y3)] m (k6_20 call n kn kx) (x6_20 call n kn kx)
theorem l6_20 {call : CL} {n : Nat} {kn : KN} {kx : KX} : d6_20 call n kn kx = S6_20 call n kn kx := by
  funext y0 y1 y2 y3 m
  have h : d6_20 call n kn kx y0 y1 y2 y3 m = G6_20 call n kn kx (d6_19 call n kn kx) y0 y1 y2 y3 m := Eq.mp (by kernel_rfl) (g6_20 call n kn kx b6_19 y0 y1 y2 y3 m)
  rw [l6_19] at h; exact h
def G6_21 (call : CL) (n : Nat) (kn : KN) (kx : KX) (Q6_20 : Y4) (y0 y1 y2 : AV) (m : Mem) : Rho :=
  callK call (.func 10 [] []) false [(.bool true)] m fun a0 m1 =>
  newK [(.list .full 0 []), (.bool false)] m1 fun a2 m3 =>
  storeK 2 a2 a0 m3 fun a4 m5 =>
  Q6_20 y0 y1 y2 a2 m5
theorem g6_21 (call : CL) (n : Nat) (kn : KN) (kx : KX) (b6_20 : C) (y0 y1 y2 : AV) (m : Mem) : evK call n (c6_21 b6_20) [(0, y0), (1, y1), (2, y2)] m kn kx = G6_21 call n kn kx (fun x0 x1 x2 x3 m => evK call n b6_20 [(0, x0), (1, x1), (2, x2), (7, x3)] m kn kx) y0 y1 y2 m := by kernel_rfl
def k6_21 (call : CL) (n : Nat) (kn : KN) (kx : KX) : KN := kn
def x6_21 (call : CL) (n : Nat) (kn : KN) (kx : KX) : KX := kx
def S6_21 (call : CL) (n : Nat) (kn : KN) (kx : KX) (y0 y1 y2 : AV) (m : Mem) : Rho := G6_21 call n kn kx (S6_20 call n kn kx) y0 y1 y2 m
def d6_21 (call : CL) (n : Nat) (kn : KN) (kx : KX) (y0 y1 y2 : AV) (m : Mem) : Rho := evK call n b6_21 [(0, y0), (1, y1), (2, y2)] m (k6_21 call n kn kx) (x6_21 call n kn kx)
theorem l6_21 {call : CL} {n : Nat} {kn : KN} {kx : KX} : d6_21 call n kn kx = S6_21 call n kn kx := by
  funext y0 y1 y2 m
  have h : d6_21 call n kn kx y0 y1 y2 m = G6_21 call n kn kx (d6_20 call n kn kx) y0 y1 y2 m := Eq.mp (by kernel_rfl) (g6_21 call n kn kx b6_20 y0 y1 y2 m)
  rw [l6_20] at h; exact h
def G6_22 (call : CL) (n : Nat) (kn : KN) (kx : KX) (Q6_21 : Y3) (y0 y1 y2 : AV) (m : Mem) : Rho :=
  binK .lss y0 (.int .i64 0) fun a0 =>
  gK a0 false (fun k => k y0 m) m fun a1 m2 =>
  gK a0 false (fun k => binK .gtr a1 (.int .i64 5) fun a3 =>
  k a3 m2) m2 fun a4 m5 =>
  pickK a0 (some (.bool true)) (some a4) fun a6 =>
  gK a6 false (fun k => k y1 m5) m5 fun a7 m8 =>
  gK a6 false (fun k => vK (aLen m8 1 a7) m8 fun a9 m10 =>
  k a9 m10) m8 fun a11 m12 =>
  gK a6 false (fun k => binK .gtr a11 (.int .i64 6) fun a13 =>
  k a13 m12) m12 fun a14 m15 =>
  pickK a6 (some (.bool true)) (some a14) fun a16 =>
  condK a16
  (callK call (.func 15 [] []) false [] m15 fun a17 m18 =>
  kx .ret [(6, a17)] m18)
  (Q6_21 y0 y1 y2 m15)
theorem g6_22 (call : CL) (n : Nat) (kn : KN) (kx : KX) (b6_21 : C) (y0 y1 y2 : AV) (m : Mem) : evK call n (c6_22 b6_21) [(0, y0), (1, y1), (2, y2)] m kn kx = G6_22 call n kn kx (fun x0 x1 x2 m => evK call n b6_21 [(0, x0), (1, x1), (2, x2)] m kn kx) y0 y1 y2 m := by kernel_rfl
def k6_22 (call : CL) (n : Nat) (kn : KN) (kx : KX) : KN := kn
def x6_22 (call : CL) (n : Nat) (kn : KN) (kx : KX) : KX := kx
def S6_22 (call : CL) (n : Nat) (kn : KN) (kx : KX) (y0 y1 y2 : AV) (m : Mem) : Rho := G6_22 call n kn kx (S6_21 call n kn kx) y0 y1 y2 m
def d6_22 (call : CL) (n : Nat) (kn : KN) (kx : KX) (y0 y1 y2 : AV) (m : Mem) : Rho := evK call n b6_22 [(0, y0), (1, y1), (2, y2)] m (k6_22 call n kn kx) (x6_22 call n kn kx)
theorem l6_22 {call : CL} {n : Nat} {kn : KN} {kx : KX} : d6_22 call n kn kx = S6_22 call n kn kx := by
  funext y0 y1 y2 m
  have h : d6_22 call n kn kx y0 y1 y2 m = G6_22 call n kn kx (d6_21 call n kn kx) y0 y1 y2 m := Eq.mp (by kernel_rfl) (g6_22 call n kn kx b6_21 y0 y1 y2 m)
  rw [l6_21] at h; exact h
def G6 (call : CL) (n : Nat) (kn : KN) (kx : KX) (Q6_22 : Y3) (y0 y1 y2 : AV) (m : Mem) : Rho :=
  Q6_22 y0 y1 y2 m
theorem g6 (call : CL) (n : Nat) (kn : KN) (kx : KX) (b6_22 : C) (y0 y1 y2 : AV) (m : Mem) : evK call n (c6 b6_22) [(0, y0), (1, y1), (2, y2)] m kn kx = G6 call n kn kx (fun x0 x1 x2 m => evK call n b6_22 [(0, x0), (1, x1), (2, x2)] m kn kx) y0 y1 y2 m := by kernel_rfl
def S6 (call : CL) (n : Nat) (kn : KN) (kx : KX) (y0 y1 y2 : AV) (m : Mem) : Rho := G6 call n kn kx (S6_22 call n kn kx) y0 y1 y2 m
theorem s6 (call : CL) (n : Nat) (kn : KN) (kx : KX) (y0 y1 y2 : AV) (m : Mem) : evK call n b6 [(0, y0), (1, y1), (2, y2)] m kn kx = S6 call n kn kx y0 y1 y2 m :=
  have h : evK call n b6 [(0, y0), (1, y1), (2, y2)] m kn kx = G6 call n kn kx (d6_22 call n kn kx) y0 y1 y2 m := Eq.mp (by kernel_rfl) (g6 call n kn kx b6_22 y0 y1 y2 m)
  by rw [l6_22] at h; exact h
def d6 (call : CL) (n : Nat) (kn : KN) (kx : KX) (y0 y1 y2 : AV) (m : Mem) : Rho := evK call n b6 [(0, y0), (1, y1), (2, y2)] m kn kx
theorem l6 {call : CL} {n : Nat} : d6 call n = S6 call n := by funext kn kx y0 y1 y2 m; exact Eq.mp (by kernel_rfl) (s6 call n kn kx y0 y1 y2 m)

-- resolvent/pos.Const
def G10 (call : CL) (n : Nat) (m0 : Mem) (y0 : AV) (m : Mem) : Rho :=
  newK [(.list .full 0 []), (.bool false)] m fun a0 m1 =>
  buildK [(.list .full 0 []), (.bool false)] [(1, 1, AV.untag1 y0)] fun a2 =>
  storeK 2 a0 a2 m1 fun a3 m4 =>
  loadK (some 2) a0 m4 fun a5 _ =>
  retK false false m0 [a5] m4
theorem g10 (call : CL) (n : Nat) (m0 : Mem) (y0 : AV) (m : Mem) : evK call n b10 [(0, y0)] m (fun e m => endK f10 m0 .nrm e m) (endK f10 m0) = G10 call n m0 y0 m := by kernel_rfl
def S10 (call : CL) (n : Nat) (m0 : Mem) (y0 : AV) : Rho := G10 call n m0 y0 { m0 with bad := none }
theorem s10 (call : CL) (n : Nat) (m0 : Mem) (y0 : AV) : bodyK call n f10 [y0] m0 = S10 call n m0 y0 :=
  have h : bodyK call n f10 [y0] m0 = G10 call n m0 y0 { m0 with bad := none } := Eq.mp (by kernel_rfl) (g10 call n m0 y0 { m0 with bad := none })
  h
def F10 : SF := fun call n vs m0 => unc vs fun x0 vs => unz vs (S10 call n m0 x0)
theorem F10_ok {orc : List AV → Mem → Option (AV × Mem)} : SOk 10 { f10 with orc := orc } F10 := by
  intro call n vs m0 ho r h0
  simp only [F10] at h0
  obtain ⟨y0, v0, rfl, h1⟩ := unc_some h0
  obtain ⟨rfl, hz⟩ := unz_some h1
  exact bodyK_le ho rfl r (Eq.mp (by kernel_rfl) ((s10 call n m0 y0).trans hz))

-- resolvent/pos.And
def G11 (call : CL) (n : Nat) (m0 : Mem) (y0 y1 : AV) (m : Mem) : Rho :=
  boxK y0 m fun a0 m1 =>
  boxK y1 m1 fun a2 m3 =>
  newK [(.list .full 0 []), (.bool false)] m3 fun a4 m5 =>
  loadK (some 2) a0 m5 fun a6 m7 =>
  loadK (some 2) a2 m7 fun a8 m9 =>
  buildSliceK 2 [(.list .full 0 []), (.bool false)] 1 false [(0 * 2, 2, AV.untag a8)] m9 fun a10 m11 =>
  callK call (.func 44 [] []) false [(.func 45 [] []), a6, a10] m11 fun a12 m13 =>
  storeK 2 a4 a12 m13 fun a14 m15 =>
  loadK (some 2) a4 m15 fun a16 _ =>
  retK false false m0 [a16] m15
theorem g11 (call : CL) (n : Nat) (m0 : Mem) (y0 y1 : AV) (m : Mem) : evK call n b11 [(0, y0), (1, y1)] m (fun e m => endK f11 m0 .nrm e m) (endK f11 m0) = G11 call n m0 y0 y1 m := by kernel_rfl
def S11 (call : CL) (n : Nat) (m0 : Mem) (y0 y1 : AV) : Rho := G11 call n m0 y0 y1 { m0 with bad := none }
theorem s11 (call : CL) (n : Nat) (m0 : Mem) (y0 y1 : AV) : bodyK call n f11 [y0, y1] m0 = S11 call n m0 y0 y1 :=
  have h : bodyK call n f11 [y0, y1] m0 = G11 call n m0 y0 y1 { m0 with bad := none } := Eq.mp (by kernel_rfl) (g11 call n m0 y0 y1 { m0 with bad := none })
  h
def F11 : SF := fun call n vs m0 => unc vs fun x0 vs => unc vs fun x1 vs => unz vs (S11 call n m0 x0 x1)
theorem F11_ok {orc : List AV → Mem → Option (AV × Mem)} : SOk 11 { f11 with orc := orc } F11 := by
  intro call n vs m0 ho r h0
  simp only [F11] at h0
  obtain ⟨y0, v0, rfl, h1⟩ := unc_some h0
  obtain ⟨y1, v1, rfl, h2⟩ := unc_some h1
  obtain ⟨rfl, hz⟩ := unz_some h2
  exact bodyK_le ho rfl r (Eq.mp (by kernel_rfl) ((s11 call n m0 y0 y1).trans hz))

-- resolvent/pos.Iff
def G12_3 (call : CL) (n : Nat) (m0 : Mem) (y0 y1 y2 y3 y4 : AV) (m : Mem) : Rho :=
  callK call (.func 53 [] []) false [y1, y2] m fun a0 m1 =>
  callK call (.func 47 [] []) false [y1, y4, a0, (.func 45 [] [])] m1 fun a2 m3 =>
  callK call (.func 47 [] []) false [y1, y3, a2, (.func 52 [] [])] m3 fun a4 m5 =>
  callK call (.func 51 [] []) false [y1, a4] m5 fun a6 m7 =>
  storeK 2 y0 a6 m7 fun a8 m9 =>
  loadK (some 2) y0 m9 fun a10 _ =>
  retK false false m0 [a10] m9
theorem g12_3 (call : CL) (n : Nat) (m0 : Mem) (y0 y1 y2 y3 y4 : AV) (m : Mem) : evK call n b12_3 [(4, y0), (5, y1), (6, y2), (11, y3), (12, y4)] m (fun e m => endK f12 m0 .nrm e m) (endK f12 m0) = G12_3 call n m0 y0 y1 y2 y3 y4 m := by kernel_rfl
def k12_3 (call : CL) (n : Nat) (m0 : Mem) : KN := (fun e m => endK f12 m0 .nrm e m)
def x12_3 (call : CL) (n : Nat) (m0 : Mem) : KX := (endK f12 m0)
def S12_3 (call : CL) (n : Nat) (m0 : Mem) (y0 y1 y2 y3 y4 : AV) (m : Mem) : Rho := G12_3 call n m0 y0 y1 y2 y3 y4 m
def d12_3 (call : CL) (n : Nat) (m0 : Mem) (y0 y1 y2 y3 y4 : AV) (m : Mem) : Rho := evK call n b12_3 [(4, y0), (5, y1), (6, y2), (11, y3), (12, y4)] m (k12_3 call n m0) (x12_3 call n m0)
theorem l12_3 {call : CL} {n : Nat} {m0 : Mem} : d12_3 call n m0 = S12_3 call n m0 := by
  funext y0 y1 y2 y3 y4 m
  have h : d12_3 call n m0 y0 y1 y2 y3 y4 m = G12_3 call n m0 y0 y1 y2 y3 y4 m := Eq.mp (by kernel_rfl) (g12_3 call n m0 y0 y1 y2 y3 y4 m)
  exact h
def G12_4 (call : CL) (n : Nat) (m0 : Mem) (Q12_3 : Y5) (y0 y1 y2 y3 y4 : AV) (m : Mem) : Rho :=
  callK call (.func 25 [] []) false [y0] m fun a0 m1 =>
  callK call (.func 48 [] []) false [y3, a0] m1 fun a2 m3 =>
  callK call (.func 49 [] []) false [y1, y0] m3 fun a4 m5 =>
  callK call (.func 47 [] []) false [y3, a2, y4, (.func 45 [] [])] m5 fun a6 m7 =>
  buildK [(.int .i64 0), (.int .i64 0), (.int .i64 0)] [(0, 1, AV.untag1 y0), (1, 1, AV.untag1 (.int .i64 1)), (2, 1, AV.untag1 (.int .i64 0))] fun a8 =>
  callK call (.func 50 [] []) false [y3, a8] m7 fun a9 m10 =>
  condK a4
  (callK call (.func 47 [] []) false [y3, a6, a9, (.func 52 [] [])] m10 fun a11 m12 =>
  callK call (.func 51 [] []) false [y3, a11] m12 fun a13 m14 =>
  storeK 2 y2 a13 m14 fun a15 m16 =>
  loadK (some 2) y2 m16 fun a17 _ =>
  retK false false m0 [a17] m16)
  (Q12_3 y2 y3 y4 a6 a9 m10)
theorem g12_4 (call : CL) (n : Nat) (m0 : Mem) (b12_3 : C) (y0 y1 y2 y3 y4 : AV) (m : Mem) : evK call n (c12_4 b12_3) [(0, y0), (1, y1), (4, y2), (5, y3), (6, y4)] m (fun e m => endK f12 m0 .nrm e m) (endK f12 m0) = G12_4 call n m0 (fun x0 x1 x2 x3 x4 m => evK call n b12_3 [(4, x0), (5, x1), (6, x2), (11, x3), (12, x4)] m (fun e m => endK f12 m0 .nrm e m) (endK f12 m0)) y0 y1 y2 y3 y4 m := by kernel_rfl
def k12_4 (call : CL) (n : Nat) (m0 : Mem) : KN := (fun e m => endK f12 m0 .nrm e m)
def x12_4 (call : CL) (n : Nat) (m0 : Mem) : KX := (endK f12 m0)
def S12_4 (call : CL) (n : Nat) (m0 : Mem) (y0 y1 y2 y3 y4 : AV) (m : Mem) : Rho := G12_4 call n m0 (S12_3 call n m0) y0 y1 y2 y3 y4 m
def d12_4 (call : CL) (n : Nat) (m0 : Mem) (y0 y1 y2 y3 y4 : AV) (m : Mem) : Rho := evK call n b12_4 [(0, y0), (1, y1), (4, y2), (5, y3), (6, y4)] m (k12_4 call n m0) (x12_4 call n m0)
theorem l12_4 {call : CL} {n : Nat} {m0 : Mem} : d12_4 call n m0 = S12_4 call n m0 := by
  funext y0 y1 y2 y3 y4 m
  have h : d12_4 call n m0 y0 y1 y2 y3 y4 m = G12_4 call n m0 (d12_3 call n m0) y0 y1 y2 y3 y4 m := Eq.mp (by kernel_rfl) (g12_4 call n m0 b12_3 y0 y1 y2 y3 y4 m)
  rw [l12_3] at h; exact h
def G12_0 (call : CL) (n : Nat) (kn : KN) (kx : KX) (y0 y1 y2 y3 y4 y5 y6 y7 : AV) (m : Mem) : Rho :=
  binK .add y7 (.int .i64 1) fun a0 =>
  kn [(0, y0), (1, y1), (4, y2), (5, y3), (6, y4), (17, y5), (18, y6), (19, a0)] m
theorem g12_0 (call : CL) (n : Nat) (kn : KN) (kx : KX) (y0 y1 y2 y3 y4 y5 y6 y7 : AV) (m : Mem) : evK call n b12_0 [(0, y0), (1, y1), (4, y2), (5, y3), (6, y4), (17, y5), (18, y6), (19, y7)] m kn kx = G12_0 call n kn kx y0 y1 y2 y3 y4 y5 y6 y7 m := by kernel_rfl
def k12_0 (call : CL) (n : Nat) (kn : KN) (kx : KX) : KN := kn
def x12_0 (call : CL) (n : Nat) (kn : KN) (kx : KX) : KX := kx
def S12_0 (call : CL) (n : Nat) (kn : KN) (kx : KX) (y0 y1 y2 y3 y4 y5 y6 y7 : AV) (m : Mem) : Rho := G12_0 call n kn kx y0 y1 y2 y3 y4 y5 y6 y7 m
def d12_0 (call : CL) (n : Nat) (kn : KN) (kx : KX) (y0 y1 y2 y3 y4 y5 y6 y7 : AV) (m : Mem) : Rho := evK call n b12_0 [(0, y0), (1, y1), (4, y2), (5, y3), (6, y4), (17, y5), (18, y6), (19, y7)] m (k12_0 call n kn kx) (x12_0 call n kn kx)
theorem l12_0 {call : CL} {n : Nat} {kn : KN} {kx : KX} : d12_0 call n kn kx = S12_0 call n kn kx := by
  funext y0 y1 y2 y3 y4 y5 y6 y7 m
  have h : d12_0 call n kn kx y0 y1 y2 y3 y4 y5 y6 y7 m = G12_0 call n kn kx y0 y1 y2 y3 y4 y5 y6 y7 m := Eq.mp (by kernel_rfl) (g12_0 call n kn kx y0 y1 y2 y3 y4 y5 y6 y7 m)
  exact h
def G12_1 (call : CL) (n : Nat) (kn : KN) (kx : KX) (Q12_0 : Y8) (y0 y1 y2 y3 y4 y5 y6 y7 : AV) (m : Mem) : Rho :=
  vK (aIndexAddr m 1 y5 y7) m fun a0 m1 =>
  loadK none a0 m1 fun a2 m3 =>
  binK .neq a2 y0 fun a4 =>
  condK a4
  (callK call (.func 25 [] []) false [a2] m3 fun a5 m6 =>
  callK call (.func 48 [] []) false [y3, a5] m6 fun a7 m8 =>
  callK call (.func 47 [] []) false [y3, y4, a7, (.func 45 [] [])] m8 fun a9 m10 =>
  Q12_0 y0 y1 y2 y3 a9 y5 y6 y7 m10)
  (Q12_0 y0 y1 y2 y3 y4 y5 y6 y7 m3)
theorem g12_1 (call : CL) (n : Nat) (kn : KN) (kx : KX) (b12_0 : C) (y0 y1 y2 y3 y4 y5 y6 y7 : AV) (m : Mem) : evK call n (c12_1 b12_0) [(0, y0), (1, y1), (4, y2), (5, y3), (6, y4), (17, y5), (18, y6), (19, y7)] m kn kx = G12_1 call n kn kx (fun x0 x1 x2 x3 x4 x5 x6 x7 m => evK call n b12_0 [(0, x0), (1, x1), (4, x2), (5, x3), (6, x4), (17, x5), (18, x6), (19, x7)] m kn kx) y0 y1 y2 y3 y4 y5 y6 y7 m := by kernel_rfl
def k12_1 (call : CL) (n : Nat) (kn : KN) (kx : KX) : KN := kn
def x12_1 (call : CL) (n : Nat) (kn : KN) (kx : KX) : KX := kx
def S12_1 (call : CL) (n : Nat) (kn : KN) (kx : KX) (y0 y1 y2 y3 y4 y5 y6 y7 : AV) (m : Mem) : Rho := G12_1 call n kn kx (S12_0 call n kn kx) y0 y1 y2 y3 y4 y5 y6 y7 m
def d12_1 (call : CL) (n : Nat) (kn : KN) (kx : KX) (y0 y1 y2 y3 y4 y5 y6 y7 : AV) (m : Mem) : Rho := evK call n b12_1 [(0, y0), (1, y1), (4, y2), (5, y3), (6, y4), (17, y5), (18, y6), (19, y7)] m (k12_1 call n kn kx) (x12_1 call n kn kx)
theorem l12_1 {call : CL} {n : Nat} {kn : KN} {kx : KX} : d12_1 call n kn kx = S12_1 call n kn kx := by
  funext y0 y1 y2 y3 y4 y5 y6 y7 m
  have h : d12_1 call n kn kx y0 y1 y2 y3 y4 y5 y6 y7 m = G12_1 call n kn kx (d12_0 call n kn kx) y0 y1 y2 y3 y4 y5 y6 y7 m := Eq.mp (by kernel_rfl) (g12_1 call n kn kx b12_0 y0 y1 y2 y3 y4 y5 y6 y7 m)
  rw [l12_0] at h; exact h
def G12_2 (call : CL) (n : Nat) (kn : KN) (kx : KX) (Q12_1 : Y8) (y0 y1 y2 y3 y4 y5 y6 y7 : AV) (m : Mem) : Rho :=
  binK .lss y7 y6 fun a0 =>
  condK a0
  (Q12_1 y0 y1 y2 y3 y4 y5 y6 y7 m)
  (kx (.ext 0) [(0, y0), (1, y1), (4, y2), (5, y3), (6, y4), (17, y5), (18, y6), (19, y7), (20, a0)] m)
theorem g12_2 (call : CL) (n : Nat) (kn : KN) (kx : KX) (b12_1 : C) (y0 y1 y2 y3 y4 y5 y6 y7 : AV) (m : Mem) : evK call n (c12_2 b12_1) [(0, y0), (1, y1), (4, y2), (5, y3), (6, y4), (17, y5), (18, y6), (19, y7)] m kn kx = G12_2 call n kn kx (fun x0 x1 x2 x3 x4 x5 x6 x7 m => evK call n b12_1 [(0, x0), (1, x1), (4, x2), (5, x3), (6, x4), (17, x5), (18, x6), (19, x7)] m kn kx) y0 y1 y2 y3 y4 y5 y6 y7 m := by kernel_rfl
def S12_2 (call : CL) (n : Nat) (kn : KN) (kx : KX) (y0 y1 y2 y3 y4 y5 y6 y7 : AV) (m : Mem) : Rho := G12_2 call n kn kx (S12_1 call n kn kx) y0 y1 y2 y3 y4 y5 y6 y7 m
def d12_2 (call : CL) (n : Nat) (kn : KN) (kx : KX) (y0 y1 y2 y3 y4 y5 y6 y7 : AV) (m : Mem) : Rho := evK call n b12_2 [(0, y0), (1, y1), (4, y2), (5, y3), (6, y4), (17, y5), (18, y6), (19, y7)] m kn kx
theorem l12_2 {call : CL} {n : Nat} : d12_2 call n = S12_2 call n := by
  funext kn kx y0 y1 y2 y3 y4 y5 y6 y7 m
  have h : d12_2 call n kn kx y0 y1 y2 y3 y4 y5 y6 y7 m = G12_2 call n kn kx (d12_1 call n kn kx) y0 y1 y2 y3 y4 y5 y6 y7 m := Eq.mp (by kernel_rfl) (g12_2 call n kn kx b12_1 y0 y1 y2 y3 y4 y5 y6 y7 m)
  rw [l12_1] at h; exact h
def G12_5 (call : CL) (n : Nat) (m0 : Mem) (B12_2 : KN → KX → Y8) (Q12_4 : Y5) (y0 y1 y2 : AV) (m : Mem) : Rho :=
  callK call (.func 46 [] []) false [] m fun a0 m1 =>
  vK (aLen m1 1 y1) m1 fun a2 m3 =>
  loopV [0, 1, 4, 5, 6, 17, 18, 19] none (fun vs m kn kx => unc vs fun x0 vs => unc vs fun x1 vs => unc vs fun x2 vs => unc vs fun x3 vs => unc vs fun x4 vs => unc vs fun x5 vs => unc vs fun x6 vs => unc vs fun x7 vs => unz vs (B12_2 kn kx x0 x1 x2 x3 x4 x5 x6 x7 m)) (blkK 0 (fun e m => keepK e [0, 1, 4, 5, 6] fun vs => unc vs fun x0 vs => unc vs fun x1 vs => unc vs fun x2 vs => unc vs fun x3 vs => unc vs fun x4 vs => unz vs (Q12_4 x0 x1 x2 x3 x4 m)) (endK f12 m0)) n [y0, y1, y2, a0, (.int .i64 1), y1, a2, (.int .i64 0)] m3
theorem g12_5 (call : CL) (n : Nat) (m0 : Mem) (b12_2 : C) (b12_4 : C) (y0 y1 y2 : AV) (m : Mem) : evK call n (c12_5 b12_2 b12_4) [(0, y0), (1, y1), (4, y2)] m (fun e m => endK f12 m0 .nrm e m) (endK f12 m0) = G12_5 call n m0 (fun kn kx x0 x1 x2 x3 x4 x5 x6 x7 m => evK call n b12_2 [(0, x0), (1, x1), (4, x2), (5, x3), (6, x4), (17, x5), (18, x6), (19, x7)] m kn kx) (fun x0 x1 x2 x3 x4 m => evK call n b12_4 [(0, x0), (1, x1), (4, x2), (5, x3), (6, x4)] m (fun e m => endK f12 m0 .nrm e m) (endK f12 m0)) y0 y1 y2 m := by kernel_rfl
def k12_5 (call : CL) (n : Nat) (m0 : Mem) : KN := (fun e m => endK f12 m0 .nrm e m)
def x12_5 (call : CL) (n : Nat) (m0 : Mem) : KX := (endK f12 m0)
def S12_5 (call : CL) (n : Nat) (m0 : Mem) (y0 y1 y2 : AV) (m : Mem) : Rho := G12_5 call n m0 (S12_2 call n) (S12_4 call n m0) y0 y1 y2 m
def d12_5 (call : CL) (n : Nat) (m0 : Mem) (y0 y1 y2 : AV) (m : Mem) : Rho := evK call n b12_5 [(0, y0), (1, y1), (4, y2)] m (k12_5 call n m0) (x12_5 call n m0)
theorem l12_5 {call : CL} {n : Nat} {m0 : Mem} : d12_5 call n m0 = S12_5 call n m0 := by
  funext y0 y1 y2 m
  have h : d12_5 call n m0 y0 y1 y2 m = G12_5 call n m0 (d12_2 call n) (d12_4 call n m0) y0 y1 y2 m := Eq.mp (by kernel_rfl) (g12_5 call n m0 b12_2 b12_4 y0 y1 y2 m)
  rw [l12_2, l12_4] at h; exact h
def G12 (call : CL) (n : Nat) (m0 : Mem) (Q12_5 : Y3) (y0 y1 : AV) (m : Mem) : Rho :=
  newK [(.list .full 0 []), (.bool false)] m fun a0 m1 =>
  binK .lss y0 (.int .i64 0) fun a2 =>
  condK a2
  (callK call (.func 10 [] []) false [(.bool true)] m1 fun a3 m4 =>
  storeK 2 a0 a3 m4 fun a5 m6 =>
  loadK (some 2) a0 m6 fun a7 _ =>
  retK false false m0 [a7] m6)
  (Q12_5 y0 y1 a0 m1)
theorem g12 (call : CL) (n : Nat) (m0 : Mem) (b12_5 : C) (y0 y1 : AV) (m : Mem) : evK call n (c12 b12_5) [(0, y0), (1, y1)] m (fun e m => endK f12 m0 .nrm e m) (endK f12 m0) = G12 call n m0 (fun x0 x1 x2 m => evK call n b12_5 [(0, x0), (1, x1), (4, x2)] m (fun e m => endK f12 m0 .nrm e m) (endK f12 m0)) y0 y1 m := by kernel_rfl
def S12 (call : CL) (n : Nat) (m0 : Mem) (y0 y1 : AV) : Rho := G12 call n m0 (S12_5 call n m0) y0 y1 { m0 with bad := none }
theorem s12 (call : CL) (n : Nat) (m0 : Mem) (y0 y1 : AV) : bodyK call n f12 [y0, y1] m0 = S12 call n m0 y0 y1 :=
  have h : bodyK call n f12 [y0, y1] m0 = G12 call n m0 (d12_5 call n m0) y0 y1 { m0 with bad := none } := Eq.mp (by kernel_rfl) (g12 call n m0 b12_5 y0 y1 { m0 with bad := none })
  by rw [l12_5] at h; exact h
def F12 : SF := fun call n vs m0 => unc vs fun x0 vs => unc vs fun x1 vs => unz vs (S12 call n m0 x0 x1)
theorem F12_ok {orc : List AV → Mem → Option (AV × Mem)} : SOk 12 { f12 with orc := orc } F12 := by
  intro call n vs m0 ho r h0
  simp only [F12] at h0
  obtain ⟨y0, v0, rfl, h1⟩ := unc_some h0
  obtain ⟨y1, v1, rfl, h2⟩ := unc_some h1
  obtain ⟨rfl, hz⟩ := unz_some h2
  exact bodyK_le ho rfl r (Eq.mp (by kernel_rfl) ((s12 call n m0 y0 y1).trans hz))

-- (resolvent/pos.Func).Size
def G13 (call : CL) (n : Nat) (m0 : Mem) (y0 : AV) (m : Mem) : Rho :=
  boxK y0 m fun a0 m1 =>
  vK (aFieldAddr 0 1 a0) m1 fun a2 m3 =>
  loadK none a2 m3 fun a4 m5 =>
  vK (aLen m5 1 a4) m5 fun a6 m7 =>
  retK false false m0 [a6] m7
theorem g13 (call : CL) (n : Nat) (m0 : Mem) (y0 : AV) (m : Mem) : evK call n b13 [(0, y0)] m (fun e m => endK f13 m0 .nrm e m) (endK f13 m0) = G13 call n m0 y0 m := by kernel_rfl
def S13 (call : CL) (n : Nat) (m0 : Mem) (y0 : AV) : Rho := G13 call n m0 y0 { m0 with bad := none }
theorem s13 (call : CL) (n : Nat) (m0 : Mem) (y0 : AV) : bodyK call n f13 [y0] m0 = S13 call n m0 y0 :=
  have h : bodyK call n f13 [y0] m0 = G13 call n m0 y0 { m0 with bad := none } := Eq.mp (by kernel_rfl) (g13 call n m0 y0 { m0 with bad := none })
  h
def F13 : SF := fun call n vs m0 => unc vs fun x0 vs => unz vs (S13 call n m0 x0)
theorem F13_ok {orc : List AV → Mem → Option (AV × Mem)} : SOk 13 { f13 with orc := orc } F13 := by
  intro call n vs m0 ho r h0
  simp only [F13] at h0
  obtain ⟨y0, v0, rfl, h1⟩ := unc_some h0
  obtain ⟨rfl, hz⟩ := unz_some h1
  exact bodyK_le ho rfl r (Eq.mp (by kernel_rfl) ((s13 call n m0 y0).trans hz))

-- (resolvent/pos.Func).Eval
def G14_2 (call : CL) (n : Nat) (m0 : Mem) (y0 : AV) (m : Mem) : Rho :=
  binK .eql y0 (.int .i64 1) fun a0 =>
  retK false false m0 [a0] m
theorem g14_2 (call : CL) (n : Nat) (m0 : Mem) (y0 : AV) (m : Mem) : evK call n b14_2 [(5, y0)] m (fun e m => endK f14 m0 .nrm e m) (endK f14 m0) = G14_2 call n m0 y0 m := by kernel_rfl
def k14_2 (call : CL) (n : Nat) (m0 : Mem) : KN := (fun e m => endK f14 m0 .nrm e m)
def x14_2 (call : CL) (n : Nat) (m0 : Mem) : KX := (endK f14 m0)
def S14_2 (call : CL) (n : Nat) (m0 : Mem) (y0 : AV) (m : Mem) : Rho := G14_2 call n m0 y0 m
def d14_2 (call : CL) (n : Nat) (m0 : Mem) (y0 : AV) (m : Mem) : Rho := evK call n b14_2 [(5, y0)] m (k14_2 call n m0) (x14_2 call n m0)
theorem l14_2 {call : CL} {n : Nat} {m0 : Mem} : d14_2 call n m0 = S14_2 call n m0 := by
  funext y0 m
  have h : d14_2 call n m0 y0 m = G14_2 call n m0 y0 m := Eq.mp (by kernel_rfl) (g14_2 call n m0 y0 m)
  exact h
def G14_0 (call : CL) (n : Nat) (kn : KN) (kx : KX) (y0 y1 y2 : AV) (m : Mem) : Rho :=
  vK (aFieldAddr 0 1 y1) m fun a0 m1 =>
  loadK none a0 m1 fun a2 m3 =>
  binK .sub y2 (.int .i64 2) fun a4 =>
  vK (aIndexAddr m3 3 a2 a4) m3 fun a5 m6 =>
  loadK (some 3) a5 m6 fun a7 m8 =>
  newK [(.int .i64 0), (.int .i64 0), (.int .i64 0)] m8 fun a9 m10 =>
  storeK 3 a9 a7 m10 fun a11 m12 =>
  vK (aFieldAddr 1 1 a9) m12 fun a13 m14 =>
  loadK none a13 m14 fun a15 m16 =>
  vK (aFieldAddr 0 1 a9) m16 fun a17 m18 =>
  loadK none a17 m18 fun a19 m20 =>
  callK call (.func 49 [] []) false [y0, a19] m20 fun a21 m22 =>
  condK a21
  (vK (aFieldAddr 2 1 a9) m22 fun a23 m24 =>
  loadK none a23 m24 fun a25 m26 =>
  kn [(1, y0), (2, y1), (5, a25)] m26)
  (kn [(1, y0), (2, y1), (5, a15), (6, a9), (30, a21)] m22)
theorem g14_0 (call : CL) (n : Nat) (kn : KN) (kx : KX) (y0 y1 y2 : AV) (m : Mem) : evK call n b14_0 [(1, y0), (2, y1), (5, y2)] m kn kx = G14_0 call n kn kx y0 y1 y2 m := by kernel_rfl
def k14_0 (call : CL) (n : Nat) (kn : KN) (kx : KX) : KN := kn
def x14_0 (call : CL) (n : Nat) (kn : KN) (kx : KX) : KX := kx
def S14_0 (call : CL) (n : Nat) (kn : KN) (kx : KX) (y0 y1 y2 : AV) (m : Mem) : Rho := G14_0 call n kn kx y0 y1 y2 m
def d14_0 (call : CL) (n : Nat) (kn : KN) (kx : KX) (y0 y1 y2 : AV) (m : Mem) : Rho := evK call n b14_0 [(1, y0), (2, y1), (5, y2)] m (k14_0 call n kn kx) (x14_0 call n kn kx)
theorem l14_0 {call : CL} {n : Nat} {kn : KN} {kx : KX} : d14_0 call n kn kx = S14_0 call n kn kx := by
  funext y0 y1 y2 m
  have h : d14_0 call n kn kx y0 y1 y2 m = G14_0 call n kn kx y0 y1 y2 m := Eq.mp (by kernel_rfl) (g14_0 call n kn kx y0 y1 y2 m)
  exact h
def G14_1 (call : CL) (n : Nat) (kn : KN) (kx : KX) (Q14_0 : Y3) (y0 y1 y2 : AV) (m : Mem) : Rho :=
  binK .geq y2 (.int .i64 2) fun a0 =>
  condK a0
  (Q14_0 y0 y1 y2 m)
  (kx (.ext 0) [(1, y0), (2, y1), (5, y2), (18, a0)] m)
theorem g14_1 (call : CL) (n : Nat) (kn : KN) (kx : KX) (b14_0 : C) (y0 y1 y2 : AV) (m : Mem) : evK call n (c14_1 b14_0) [(1, y0), (2, y1), (5, y2)] m kn kx = G14_1 call n kn kx (fun x0 x1 x2 m => evK call n b14_0 [(1, x0), (2, x1), (5, x2)] m kn kx) y0 y1 y2 m := by kernel_rfl
def S14_1 (call : CL) (n : Nat) (kn : KN) (kx : KX) (y0 y1 y2 : AV) (m : Mem) : Rho := G14_1 call n kn kx (S14_0 call n kn kx) y0 y1 y2 m
def d14_1 (call : CL) (n : Nat) (kn : KN) (kx : KX) (y0 y1 y2 : AV) (m : Mem) : Rho := evK call n b14_1 [(1, y0), (2, y1), (5, y2)] m kn kx
theorem l14_1 {call : CL} {n : Nat} : d14_1 call n = S14_1 call n := by
  funext kn kx y0 y1 y2 m
  have h : d14_1 call n kn kx y0 y1 y2 m = G14_1 call n kn kx (d14_0 call n kn kx) y0 y1 y2 m := Eq.mp (by kernel_rfl) (g14_1 call n kn kx b14_0 y0 y1 y2 m)
  rw [l14_0] at h; exact h
def G14_3 (call : CL) (n : Nat) (m0 : Mem) (B14_1 : KN → KX → Y3) (Q14_2 : Y1) (y0 y1 : AV) (m : Mem) : Rho :=
  vK (aFieldAddr 0 1 y1) m fun a0 m1 =>
  loadK none a0 m1 fun a2 m3 =>
  vK (aLen m3 1 a2) m3 fun a4 m5 =>
  binK .add a4 (.int .i64 1) fun a6 =>
  loopV [1, 2, 5] none (fun vs m kn kx => unc vs fun x0 vs => unc vs fun x1 vs => unc vs fun x2 vs => unz vs (B14_1 kn kx x0 x1 x2 m)) (blkK 0 (fun e m => keepK e [5] fun vs => unc vs fun x0 vs => unz vs (Q14_2 x0 m)) (endK f14 m0)) n [y0, y1, a6] m5
theorem g14_3 (call : CL) (n : Nat) (m0 : Mem) (b14_1 : C) (b14_2 : C) (y0 y1 : AV) (m : Mem) : evK call n (c14_3 b14_1 b14_2) [(1, y0), (2, y1)] m (fun e m => endK f14 m0 .nrm e m) (endK f14 m0) = G14_3 call n m0 (fun kn kx x0 x1 x2 m => evK call n b14_1 [(1, x0), (2, x1), (5, x2)] m kn kx) (fun x0 m => evK call n b14_2 [(5, x0)] m (fun e m => endK f14 m0 .nrm e m) (endK f14 m0)) y0 y1 m := by kernel_rfl
def k14_3 (call : CL) (n : Nat) (m0 : Mem) : KN := (fun e m => endK f14 m0 .nrm e m)
def x14_3 (call : CL) (n : Nat) (m0 : Mem) : KX := (endK f14 m0)
def S14_3 (call : CL) (n : Nat) (m0 : Mem) (y0 y1 : AV) (m : Mem) : Rho := G14_3 call n m0 (S14_1 call n) (S14_2 call n m0) y0 y1 m
def d14_3 (call : CL) (n : Nat) (m0 : Mem) (y0 y1 : AV) (m : Mem) : Rho := evK call n b14_3 [(1, y0), (2, y1)] m (k14_3 call n m0) (x14_3 call n m0)
theorem l14_3 {call : CL} {n : Nat} {m0 : Mem} : d14_3 call n m0 = S14_3 call n m0 := by
  funext y0 y1 m
  have h : d14_3 call n m0 y0 y1 m = G14_3 call n m0 (d14_1 call n) (d14_2 call n m0) y0 y1 m := Eq.mp (by kernel_rfl) (g14_3 call n m0 b14_1 b14_2 y0 y1 m)
  rw [l14_1, l14_2] at h; exact h
def G14 (call : CL) (n : Nat) (m0 : Mem) (Q14_3 : Y2) (y0 y1 : AV) (m : Mem) : Rho :=
  boxK y0 m fun a0 m1 =>
  vK (aFieldAddr 0 1 a0) m1 fun a2 m3 =>
  loadK none a2 m3 fun a4 m5 =>
  vK (aLen m5 1 a4) m5 fun a6 m7 =>
  binK .eql a6 (.int .i64 0) fun a8 =>
  condK a8
  (vK (aFieldAddr 1 1 a0) m7 fun a9 m10 =>
  loadK none a9 m10 fun a11 m12 =>
  retK false false m0 [a11] m12)
  (Q14_3 y1 a0 m7)
theorem g14 (call : CL) (n : Nat) (m0 : Mem) (b14_3 : C) (y0 y1 : AV) (m : Mem) : evK call n (c14 b14_3) [(0, y0), (1, y1)] m (fun e m => endK f14 m0 .nrm e m) (endK f14 m0) = G14 call n m0 (fun x0 x1 m => evK call n b14_3 [(1, x0), (2, x1)] m (fun e m => endK f14 m0 .nrm e m) (endK f14 m0)) y0 y1 m := by kernel_rfl
def S14 (call : CL) (n : Nat) (m0 : Mem) (y0 y1 : AV) : Rho := G14 call n m0 (S14_3 call n m0) y0 y1 { m0 with bad := none }
theorem s14 (call : CL) (n : Nat) (m0 : Mem) (y0 y1 : AV) : bodyK call n f14 [y0, y1] m0 = S14 call n m0 y0 y1 :=
  have h : bodyK call n f14 [y0, y1] m0 = G14 call n m0 (d14_3 call n m0) y0 y1 { m0 with bad := none } := Eq.mp (by kernel_rfl) (g14 call n m0 b14_3 y0 y1 { m0 with bad := none })
  by rw [l14_3] at h; exact h
def F14 : SF := fun call n vs m0 => unc vs fun x0 vs => unc vs fun x1 vs => unz vs (S14 call n m0 x0 x1)
theorem F14_ok {orc : List AV → Mem → Option (AV × Mem)} : SOk 14 { f14 with orc := orc } F14 := by
  intro call n vs m0 ho r h0
  simp only [F14] at h0
  obtain ⟨y0, v0, rfl, h1⟩ := unc_some h0
  obtain ⟨y1, v1, rfl, h2⟩ := unc_some h1
  obtain ⟨rfl, hz⟩ := unz_some h2
  exact bodyK_le ho rfl r (Eq.mp (by kernel_rfl) ((s14 call n m0 y0 y1).trans hz))

-- resolvent/resolventlaw16.wakes
def G15 (call : CL) (n : Nat) (m0 : Mem) (m : Mem) : Rho :=
  callK call (.func 25 [] []) false [(.int .i64 0)] m fun a0 m1 =>
  buildSliceK 1 [(.int .i64 0)] 2 false [(0 * 1, 1, AV.untag (.int .i64 1)), (1 * 1, 1, AV.untag (.int .i64 2))] m1 fun a2 m3 =>
  callK call (.func 12 [] []) false [(.int .i64 0), a2] m3 fun a4 m5 =>
  callK call (.func 11 [] []) false [a0, a4] m5 fun a6 m7 =>
  newK [(.list .full 0 []), (.bool false)] m7 fun a8 m9 =>
  storeK 2 a8 a6 m9 fun a10 m11 =>
  callK call (.func 25 [] []) false [(.int .i64 0)] m11 fun a12 m13 =>
  callK call (.func 25 [] []) false [(.int .i64 1)] m13 fun a14 m15 =>
  callK call (.func 11 [] []) false [a12, a14] m15 fun a16 m17 =>
  callK call (.func 24 [] []) false [a16, (.int .i64 0)] m17 fun a18 m19 =>
  newK [(.list .full 0 []), (.bool false)] m19 fun a20 m21 =>
  storeK 2 a20 a18 m21 fun a22 m23 =>
  callK call (.func 25 [] []) false [(.int .i64 0)] m23 fun a24 m25 =>
  callK call (.func 10 [] []) false [(.bool true)] m25 fun a26 m27 =>
  callK call (.func 23 [] []) false [a24, a26] m27 fun a28 m29 =>
  newK [(.list .full 0 []), (.bool false)] m29 fun a30 m31 =>
  storeK 2 a30 a28 m31 fun a32 m33 =>
  loadK (some 2) a8 m33 fun a34 m35 =>
  callK call (.func 19 [] []) false [a34, (.int .i64 1)] m35 fun a36 m37 =>
  gDK a36 true (fun k => loadK (some 2) a8 m37 fun a38 m39 =>
  k a38 m39) m37 fun r40 a41 m42 =>
  gDK a36 true (fun k => callK call (.func 19 [] []) false [a41, (.int .i64 2)] m42 fun a43 m44 =>
  k a43 m44) m42 fun r45 a46 m47 =>
  pickK a36 (some a46) (some (.bool false)) fun a48 =>
  gDK a48 true (fun k => loadK (some 2) a8 m47 fun a49 m50 =>
  k a49 m50) m47 fun r51 a52 m53 =>
  gDK a48 true (fun k => callK call (.func 19 [] []) false [a52, (.int .i64 3)] m53 fun a54 m55 =>
  k a54 m55) m53 fun r56 a57 m58 =>
  gDK a48 true (fun k => unK .not a57 fun a59 =>
  k a59 m58) m58 fun r60 a61 m62 =>
  pickK a48 (some a61) (some (.bool false)) fun a63 =>
  gDK a63 true (fun k => loadK (some 2) a20 m62 fun a64 m65 =>
  k a64 m65) m62 fun r66 a67 m68 =>
  gDK a63 true (fun k => callK call (.func 25 [] []) false [(.int .i64 1)] m68 fun a69 m70 =>
  k a69 m70) m68 fun r71 a72 m73 =>
  gDK a63 true (fun k => callK call (.func 22 [] []) false [a67, a72] m73 fun a74 m75 =>
  k a74 m75) m73 fun r76 a77 m78 =>
  pickK a63 (some a77) (some (.bool false)) fun a79 =>
  gDK a79 true (fun k => loadK (some 2) a30 m78 fun a80 m81 =>
  k a80 m81) m78 fun r82 a83 m84 =>
  gDK a79 true (fun k => callK call (.func 10 [] []) false [(.bool true)] m84 fun a85 m86 =>
  k a85 m86) m84 fun r87 a88 m89 =>
  gDK a79 true (fun k => callK call (.func 22 [] []) false [a83, a88] m89 fun a90 m91 =>
  k a90 m91) m89 fun r92 a93 m94 =>
  pickK a79 (some a93) (some (.bool false)) fun a95 =>
  gDK a95 true (fun k => loadK (some 2) a30 m94 fun a96 m97 =>
  k a96 m97) m94 fun r98 a99 m100 =>
  gDK a95 true (fun k => callK call (.func 13 [] []) false [a99] m100 fun a101 m102 =>
  k a101 m102) m100 fun r103 a104 m105 =>
  gDK a95 true (fun k => binK .eql a104 (.int .i64 0) fun a106 =>
  k a106 m105) m105 fun r107 a108 m109 =>
  pickK a95 (some a108) (some (.bool false)) fun a110 =>
  gDK a110 true (fun k => callK call (.func 25 [] []) false [(.int .i64 3)] m109 fun a111 m112 =>
  k a111 m112) m109 fun r113 a114 m115 =>
  gDK a110 true (fun k => buildSliceK 1 [(.int .i64 0)] 1 false [(0 * 1, 1, AV.untag (.int .i64 3))] m115 fun a116 m117 =>
  k a116 m117) m115 fun r118 a119 m120 =>
  gDK a110 true (fun k => callK call (.func 14 [] []) false [a114, a119] m120 fun a121 m122 =>
  k a121 m122) m120 fun r123 a124 m125 =>
  pickK a110 (some a124) (some (.bool false)) fun a126 =>
  gDK a126 true (fun k => callK call (.func 25 [] []) false [(.int .i64 3)] m125 fun a127 m128 =>
  k a127 m128) m125 fun r129 a130 m131 =>
  gDK a126 true (fun k => callK call (.func 14 [] []) false [a130, (.list .full 0 [])] m131 fun a132 m133 =>
  k a132 m133) m131 fun r134 a135 m136 =>
  gDK a126 true (fun k => unK .not a135 fun a137 =>
  k a137 m136) m136 fun r138 a139 m140 =>
  pickK a126 (some a139) (some (.bool false)) fun a141 =>
  cond (stayK [m33, m37, m47, m58, m73, m78, m89, m94, m105, m115, m125, m131, m136] [(fun m => m.load (some 2) a20, a67, 3, 2, r66), (fun m => m.load (some 2) a30, a83, 5, 2, r82)]) (retK false false m0 [a141] m140) none
theorem g15 (call : CL) (n : Nat) (m0 : Mem) (m : Mem) : evK call n b15 [] m (fun e m => endK f15 m0 .nrm e m) (endK f15 m0) = G15 call n m0 m := by kernel_rfl
def S15 (call : CL) (n : Nat) (m0 : Mem) : Rho := G15 call n m0 { m0 with bad := none }
theorem s15 (call : CL) (n : Nat) (m0 : Mem) : bodyK call n f15 [] m0 = S15 call n m0 :=
  have h : bodyK call n f15 [] m0 = G15 call n m0 { m0 with bad := none } := Eq.mp (by kernel_rfl) (g15 call n m0 { m0 with bad := none })
  h
def F15 : SF := fun call n vs m0 => unz vs (S15 call n m0)
theorem F15_ok {orc : List AV → Mem → Option (AV × Mem)} : SOk 15 { f15 with orc := orc } F15 := by
  intro call n vs m0 ho r h0
  simp only [F15] at h0
  obtain ⟨rfl, hz⟩ := unz_some h0
  exact bodyK_le ho rfl r (Eq.mp (by kernel_rfl) ((s15 call n m0).trans hz))

-- (resolvent/pos.Func).Vars
def G17_2 (call : CL) (n : Nat) (m0 : Mem) (y0 : AV) (m : Mem) : Rho :=
  callK call (.func 56 [] []) false [y0] m fun a0 m1 =>
  callK call (.func 57 [] []) false [y0] m1 fun a2 m3 =>
  retK false false m0 [a2] m3
theorem g17_2 (call : CL) (n : Nat) (m0 : Mem) (y0 : AV) (m : Mem) : evK call n b17_2 [(3, y0)] m (fun e m => endK f17 m0 .nrm e m) (endK f17 m0) = G17_2 call n m0 y0 m := by kernel_rfl
def k17_2 (call : CL) (n : Nat) (m0 : Mem) : KN := (fun e m => endK f17 m0 .nrm e m)
def x17_2 (call : CL) (n : Nat) (m0 : Mem) : KX := (endK f17 m0)
def S17_2 (call : CL) (n : Nat) (m0 : Mem) (y0 : AV) (m : Mem) : Rho := G17_2 call n m0 y0 m
def d17_2 (call : CL) (n : Nat) (m0 : Mem) (y0 : AV) (m : Mem) : Rho := evK call n b17_2 [(3, y0)] m (k17_2 call n m0) (x17_2 call n m0)
theorem l17_2 {call : CL} {n : Nat} {m0 : Mem} : d17_2 call n m0 = S17_2 call n m0 := by
  funext y0 m
  have h : d17_2 call n m0 y0 m = G17_2 call n m0 y0 m := Eq.mp (by kernel_rfl) (g17_2 call n m0 y0 m)
  exact h
def G17_0 (call : CL) (n : Nat) (kn : KN) (kx : KX) (y0 y1 y2 y3 : AV) (m : Mem) : Rho :=
  vK (aIndexAddr m 3 y1 y3) m fun a0 m1 =>
  loadK (some 3) a0 m1 fun a2 m3 =>
  newK [(.int .i64 0), (.int .i64 0), (.int .i64 0)] m3 fun a4 m5 =>
  storeK 3 a4 a2 m5 fun a6 m7 =>
  vK (aFieldAddr 0 1 a4) m7 fun a8 m9 =>
  loadK none a8 m9 fun a10 m11 =>
  buildSliceK 1 [(.int .i64 0)] 1 false [(0 * 1, 1, AV.untag a10)] m11 fun a12 m13 =>
  appendK 1 8 1 y0 a12 m13 fun a14 m15 =>
  binK .add y3 (.int .i64 1) fun a16 =>
  kn [(3, a14), (7, y1), (8, y2), (9, a16)] m15
theorem g17_0 (call : CL) (n : Nat) (kn : KN) (kx : KX) (y0 y1 y2 y3 : AV) (m : Mem) : evK call n b17_0 [(3, y0), (7, y1), (8, y2), (9, y3)] m kn kx = G17_0 call n kn kx y0 y1 y2 y3 m := by kernel_rfl
def k17_0 (call : CL) (n : Nat) (kn : KN) (kx : KX) : KN := kn
def x17_0 (call : CL) (n : Nat) (kn : KN) (kx : KX) : KX := kx
def S17_0 (call : CL) (n : Nat) (kn : KN) (kx : KX) (y0 y1 y2 y3 : AV) (m : Mem) : Rho := G17_0 call n kn kx y0 y1 y2 y3 m
def d17_0 (call : CL) (n : Nat) (kn : KN) (kx : KX) (y0 y1 y2 y3 : AV) (m : Mem) : Rho := evK call n b17_0 [(3, y0), (7, y1), (8, y2), (9, y3)] m (k17_0 call n kn kx) (x17_0 call n kn kx)
theorem l17_0 {call : CL} {n : Nat} {kn : KN} {kx : KX} : d17_0 call n kn kx = S17_0 call n kn kx := by
  funext y0 y1 y2 y3 m
  have h : d17_0 call n kn kx y0 y1 y2 y3 m = G17_0 call n kn kx y0 y1 y2 y3 m := Eq.mp (by kernel_rfl) (g17_0 call n kn kx y0 y1 y2 y3 m)
  exact h
def G17_1 (call : CL) (n : Nat) (kn : KN) (kx : KX) (Q17_0 : Y4) (y0 y1 y2 y3 : AV) (m : Mem) : Rho :=
  binK .lss y3 y2 fun a0 =>
  condK a0
  (Q17_0 y0 y1 y2 y3 m)
  (kx (.ext 0) [(3, y0), (7, y1), (8, y2), (9, y3), (10, a0)] m)
theorem g17_1 (call : CL) (n : Nat) (kn : KN) (kx : KX) (b17_0 : C) (y0 y1 y2 y3 : AV) (m : Mem) : evK call n (c17_1 b17_0) [(3, y0), (7, y1), (8, y2), (9, y3)] m kn kx = G17_1 call n kn kx (fun x0 x1 x2 x3 m => evK call n b17_0 [(3, x0), (7, x1), (8, x2), (9, x3)] m kn kx) y0 y1 y2 y3 m := by kernel_rfl
def S17_1 (call : CL) (n : Nat) (kn : KN) (kx : KX) (y0 y1 y2 y3 : AV) (m : Mem) : Rho := G17_1 call n kn kx (S17_0 call n kn kx) y0 y1 y2 y3 m
def d17_1 (call : CL) (n : Nat) (kn : KN) (kx : KX) (y0 y1 y2 y3 : AV) (m : Mem) : Rho := evK call n b17_1 [(3, y0), (7, y1), (8, y2), (9, y3)] m kn kx
theorem l17_1 {call : CL} {n : Nat} : d17_1 call n = S17_1 call n := by
  funext kn kx y0 y1 y2 y3 m
  have h : d17_1 call n kn kx y0 y1 y2 y3 m = G17_1 call n kn kx (d17_0 call n kn kx) y0 y1 y2 y3 m := Eq.mp (by kernel_rfl) (g17_1 call n kn kx b17_0 y0 y1 y2 y3 m)
  rw [l17_0] at h; exact h
def G17 (call : CL) (n : Nat) (m0 : Mem) (B17_1 : KN → KX → Y4) (Q17_2 : Y1) (y0 : AV) (m : Mem) : Rho :=
  boxK y0 m fun a0 m1 =>
  vK (aFieldAddr 0 1 a0) m1 fun a2 m3 =>
  loadK none a2 m3 fun a4 m5 =>
  vK (aLen m5 1 a4) m5 fun a6 m7 =>
  loopV [3, 7, 8, 9] none (fun vs m kn kx => unc vs fun x0 vs => unc vs fun x1 vs => unc vs fun x2 vs => unc vs fun x3 vs => unz vs (B17_1 kn kx x0 x1 x2 x3 m)) (blkK 0 (fun e m => keepK e [3] fun vs => unc vs fun x0 vs => unz vs (Q17_2 x0 m)) (endK f17 m0)) n [(.list .full 1 []), a4, a6, (.int .i64 0)] m7
theorem g17 (call : CL) (n : Nat) (m0 : Mem) (b17_1 : C) (b17_2 : C) (y0 : AV) (m : Mem) : evK call n (c17 b17_1 b17_2) [(0, y0)] m (fun e m => endK f17 m0 .nrm e m) (endK f17 m0) = G17 call n m0 (fun kn kx x0 x1 x2 x3 m => evK call n b17_1 [(3, x0), (7, x1), (8, x2), (9, x3)] m kn kx) (fun x0 m => evK call n b17_2 [(3, x0)] m (fun e m => endK f17 m0 .nrm e m) (endK f17 m0)) y0 m := by kernel_rfl
def S17 (call : CL) (n : Nat) (m0 : Mem) (y0 : AV) : Rho := G17 call n m0 (S17_1 call n) (S17_2 call n m0) y0 { m0 with bad := none }
theorem s17 (call : CL) (n : Nat) (m0 : Mem) (y0 : AV) : bodyK call n f17 [y0] m0 = S17 call n m0 y0 :=
  have h : bodyK call n f17 [y0] m0 = G17 call n m0 (d17_1 call n) (d17_2 call n m0) y0 { m0 with bad := none } := Eq.mp (by kernel_rfl) (g17 call n m0 b17_1 b17_2 y0 { m0 with bad := none })
  by rw [l17_1, l17_2] at h; exact h
def F17 : SF := fun call n vs m0 => unc vs fun x0 vs => unz vs (S17 call n m0 x0)
theorem F17_ok {orc : List AV → Mem → Option (AV × Mem)} : SOk 17 { f17 with orc := orc } F17 := by
  intro call n vs m0 ho r h0
  simp only [F17] at h0
  obtain ⟨y0, v0, rfl, h1⟩ := unc_some h0
  obtain ⟨rfl, hz⟩ := unz_some h1
  exact bodyK_le ho rfl r (Eq.mp (by kernel_rfl) ((s17 call n m0 y0).trans hz))

-- (resolvent/pos.Func).Entails
def G19 (call : CL) (n : Nat) (m0 : Mem) (y0 y1 : AV) (m : Mem) : Rho :=
  boxK y0 m fun a0 m1 =>
  loadK (some 2) a0 m1 fun a2 m3 =>
  callK call (.func 25 [] []) false [y1] m3 fun a4 m5 =>
  callK call (.func 11 [] []) false [a2, a4] m5 fun a6 m7 =>
  loadK (some 2) a0 m7 fun a8 m9 =>
  callK call (.func 22 [] []) false [a6, a8] m9 fun a10 m11 =>
  gDK a10 true (fun k => k y1 m11) m11 fun r12 a13 m14 =>
  gDK a10 true (fun k => binK .geq a13 (.int .i64 0) fun a15 =>
  k a15 m14) m14 fun r16 a17 m18 =>
  pickK a10 (some a17) (some (.bool false)) fun a19 =>
  cond (stayK [m1, m5, m7, m11] [(fun m => m.load (some 2) a0, a2, 0, 2, true), (fun m => m.load (some 2) a0, a8, 0, 3, true)]) (retK false false m0 [a19] m18) none
theorem g19 (call : CL) (n : Nat) (m0 : Mem) (y0 y1 : AV) (m : Mem) : evK call n b19 [(0, y0), (1, y1)] m (fun e m => endK f19 m0 .nrm e m) (endK f19 m0) = G19 call n m0 y0 y1 m := by kernel_rfl
def S19 (call : CL) (n : Nat) (m0 : Mem) (y0 y1 : AV) : Rho := G19 call n m0 y0 y1 { m0 with bad := none }
theorem s19 (call : CL) (n : Nat) (m0 : Mem) (y0 y1 : AV) : bodyK call n f19 [y0, y1] m0 = S19 call n m0 y0 y1 :=
  have h : bodyK call n f19 [y0, y1] m0 = G19 call n m0 y0 y1 { m0 with bad := none } := Eq.mp (by kernel_rfl) (g19 call n m0 y0 y1 { m0 with bad := none })
  h
def F19 : SF := fun call n vs m0 => unc vs fun x0 vs => unc vs fun x1 vs => unz vs (S19 call n m0 x0 x1)
theorem F19_ok {orc : List AV → Mem → Option (AV × Mem)} : SOk 19 { f19 with orc := orc } F19 := by
  intro call n vs m0 ho r h0
  simp only [F19] at h0
  obtain ⟨y0, v0, rfl, h1⟩ := unc_some h0
  obtain ⟨y1, v1, rfl, h2⟩ := unc_some h1
  obtain ⟨rfl, hz⟩ := unz_some h2
  exact bodyK_le ho rfl r (Eq.mp (by kernel_rfl) ((s19 call n m0 y0 y1).trans hz))

-- (resolvent/pos.Func).Same
def G22 (call : CL) (n : Nat) (m0 : Mem) (y0 y1 : AV) (m : Mem) : Rho :=
  boxK y0 m fun a0 m1 =>
  boxK y1 m1 fun a2 m3 =>
  vK (aFieldAddr 1 1 a0) m3 fun a4 m5 =>
  loadK none a4 m5 fun a6 m7 =>
  vK (aFieldAddr 1 1 a2) m7 fun a8 m9 =>
  loadK none a8 m9 fun a10 m11 =>
  eqvK ⟨[.b], false⟩ false a6 a10 fun a12 =>
  gK a12 true (fun k => vK (aFieldAddr 0 1 a0) m11 fun a13 m14 =>
  k a13 m14) m11 fun a15 m16 =>
  gK a12 true (fun k => loadK none a15 m16 fun a17 m18 =>
  k a17 m18) m16 fun a19 m20 =>
  gK a12 true (fun k => vK (aFieldAddr 0 1 a2) m20 fun a21 m22 =>
  k a21 m22) m20 fun a23 m24 =>
  gK a12 true (fun k => loadK none a23 m24 fun a25 m26 =>
  k a25 m26) m24 fun a27 m28 =>
  gK a12 true (fun k => callK call (.func 59 [] []) false [a19, a27] m28 fun a29 m30 =>
  k a29 m30) m28 fun a31 m32 =>
  pickK a12 (some a31) (some (.bool false)) fun a33 =>
  retK false false m0 [a33] m32
theorem g22 (call : CL) (n : Nat) (m0 : Mem) (y0 y1 : AV) (m : Mem) : evK call n b22 [(0, y0), (1, y1)] m (fun e m => endK f22 m0 .nrm e m) (endK f22 m0) = G22 call n m0 y0 y1 m := by kernel_rfl
def S22 (call : CL) (n : Nat) (m0 : Mem) (y0 y1 : AV) : Rho := G22 call n m0 y0 y1 { m0 with bad := none }
theorem s22 (call : CL) (n : Nat) (m0 : Mem) (y0 y1 : AV) : bodyK call n f22 [y0, y1] m0 = S22 call n m0 y0 y1 :=
  have h : bodyK call n f22 [y0, y1] m0 = G22 call n m0 y0 y1 { m0 with bad := none } := Eq.mp (by kernel_rfl) (g22 call n m0 y0 y1 { m0 with bad := none })
  h
def F22 : SF := fun call n vs m0 => unc vs fun x0 vs => unc vs fun x1 vs => unz vs (S22 call n m0 x0 x1)
theorem F22_ok {orc : List AV → Mem → Option (AV × Mem)} : SOk 22 { f22 with orc := orc } F22 := by
  intro call n vs m0 ho r h0
  simp only [F22] at h0
  obtain ⟨y0, v0, rfl, h1⟩ := unc_some h0
  obtain ⟨y1, v1, rfl, h2⟩ := unc_some h1
  obtain ⟨rfl, hz⟩ := unz_some h2
  exact bodyK_le ho rfl r (Eq.mp (by kernel_rfl) ((s22 call n m0 y0 y1).trans hz))

-- resolvent/pos.Or
def G23 (call : CL) (n : Nat) (m0 : Mem) (y0 y1 : AV) (m : Mem) : Rho :=
  boxK y0 m fun a0 m1 =>
  boxK y1 m1 fun a2 m3 =>
  newK [(.list .full 0 []), (.bool false)] m3 fun a4 m5 =>
  loadK (some 2) a0 m5 fun a6 m7 =>
  loadK (some 2) a2 m7 fun a8 m9 =>
  buildSliceK 2 [(.list .full 0 []), (.bool false)] 1 false [(0 * 2, 2, AV.untag a8)] m9 fun a10 m11 =>
  callK call (.func 44 [] []) false [(.func 52 [] []), a6, a10] m11 fun a12 m13 =>
  storeK 2 a4 a12 m13 fun a14 m15 =>
  loadK (some 2) a4 m15 fun a16 _ =>
  retK false false m0 [a16] m15
theorem g23 (call : CL) (n : Nat) (m0 : Mem) (y0 y1 : AV) (m : Mem) : evK call n b23 [(0, y0), (1, y1)] m (fun e m => endK f23 m0 .nrm e m) (endK f23 m0) = G23 call n m0 y0 y1 m := by kernel_rfl
def S23 (call : CL) (n : Nat) (m0 : Mem) (y0 y1 : AV) : Rho := G23 call n m0 y0 y1 { m0 with bad := none }
theorem s23 (call : CL) (n : Nat) (m0 : Mem) (y0 y1 : AV) : bodyK call n f23 [y0, y1] m0 = S23 call n m0 y0 y1 :=
  have h : bodyK call n f23 [y0, y1] m0 = G23 call n m0 y0 y1 { m0 with bad := none } := Eq.mp (by kernel_rfl) (g23 call n m0 y0 y1 { m0 with bad := none })
  h
def F23 : SF := fun call n vs m0 => unc vs fun x0 vs => unc vs fun x1 vs => unz vs (S23 call n m0 x0 x1)
theorem F23_ok {orc : List AV → Mem → Option (AV × Mem)} : SOk 23 { f23 with orc := orc } F23 := by
  intro call n vs m0 ho r h0
  simp only [F23] at h0
  obtain ⟨y0, v0, rfl, h1⟩ := unc_some h0
  obtain ⟨y1, v1, rfl, h2⟩ := unc_some h1
  obtain ⟨rfl, hz⟩ := unz_some h2
  exact bodyK_le ho rfl r (Eq.mp (by kernel_rfl) ((s23 call n m0 y0 y1).trans hz))

-- resolvent/pos.Exists
def G24_0 (call : CL) (n : Nat) (m0 : Mem) (y0 y1 y2 : AV) (m : Mem) : Rho :=
  callK call (.func 46 [] []) false [] m fun a0 m1 =>
  loadK (some 2) y1 m1 fun a2 m3 =>
  callK call (.func 48 [] []) false [a0, a2] m3 fun a4 m5 =>
  callK call (.func 60 [] []) false [a0, a4, y0, (.bool false)] m5 fun a6 m7 =>
  callK call (.func 60 [] []) false [a0, a4, y0, (.bool true)] m7 fun a8 m9 =>
  callK call (.func 47 [] []) false [a0, a6, a8, (.func 52 [] [])] m9 fun a10 m11 =>
  callK call (.func 51 [] []) false [a0, a10] m11 fun a12 m13 =>
  storeK 2 y2 a12 m13 fun a14 m15 =>
  loadK (some 2) y2 m15 fun a16 _ =>
  retK false false m0 [a16] m15
theorem g24_0 (call : CL) (n : Nat) (m0 : Mem) (y0 y1 y2 : AV) (m : Mem) : evK call n b24_0 [(1, y0), (2, y1), (4, y2)] m (fun e m => endK f24 m0 .nrm e m) (endK f24 m0) = G24_0 call n m0 y0 y1 y2 m := by kernel_rfl
def k24_0 (call : CL) (n : Nat) (m0 : Mem) : KN := (fun e m => endK f24 m0 .nrm e m)
def x24_0 (call : CL) (n : Nat) (m0 : Mem) : KX := (endK f24 m0)
def S24_0 (call : CL) (n : Nat) (m0 : Mem) (y0 y1 y2 : AV) (m : Mem) : Rho := G24_0 call n m0 y0 y1 y2 m
def d24_0 (call : CL) (n : Nat) (m0 : Mem) (y0 y1 y2 : AV) (m : Mem) : Rho := evK call n b24_0 [(1, y0), (2, y1), (4, y2)] m (k24_0 call n m0) (x24_0 call n m0)
theorem l24_0 {call : CL} {n : Nat} {m0 : Mem} : d24_0 call n m0 = S24_0 call n m0 := by
  funext y0 y1 y2 m
  have h : d24_0 call n m0 y0 y1 y2 m = G24_0 call n m0 y0 y1 y2 m := Eq.mp (by kernel_rfl) (g24_0 call n m0 y0 y1 y2 m)
  exact h
def G24 (call : CL) (n : Nat) (m0 : Mem) (Q24_0 : Y3) (y0 y1 : AV) (m : Mem) : Rho :=
  boxK y0 m fun a0 m1 =>
  newK [(.list .full 0 []), (.bool false)] m1 fun a2 m3 =>
  binK .lss y1 (.int .i64 0) fun a4 =>
  condK a4
  (loadK (some 2) a0 m3 fun a5 m6 =>
  storeK 2 a2 a5 m6 fun a7 m8 =>
  loadK (some 2) a2 m8 fun a9 _ =>
  retK false false m0 [a9] m8)
  (Q24_0 y1 a0 a2 m3)
theorem g24 (call : CL) (n : Nat) (m0 : Mem) (b24_0 : C) (y0 y1 : AV) (m : Mem) : evK call n (c24 b24_0) [(0, y0), (1, y1)] m (fun e m => endK f24 m0 .nrm e m) (endK f24 m0) = G24 call n m0 (fun x0 x1 x2 m => evK call n b24_0 [(1, x0), (2, x1), (4, x2)] m (fun e m => endK f24 m0 .nrm e m) (endK f24 m0)) y0 y1 m := by kernel_rfl
def S24 (call : CL) (n : Nat) (m0 : Mem) (y0 y1 : AV) : Rho := G24 call n m0 (S24_0 call n m0) y0 y1 { m0 with bad := none }
theorem s24 (call : CL) (n : Nat) (m0 : Mem) (y0 y1 : AV) : bodyK call n f24 [y0, y1] m0 = S24 call n m0 y0 y1 :=
  have h : bodyK call n f24 [y0, y1] m0 = G24 call n m0 (d24_0 call n m0) y0 y1 { m0 with bad := none } := Eq.mp (by kernel_rfl) (g24 call n m0 b24_0 y0 y1 { m0 with bad := none })
  by rw [l24_0] at h; exact h
def F24 : SF := fun call n vs m0 => unc vs fun x0 vs => unc vs fun x1 vs => unz vs (S24 call n m0 x0 x1)
theorem F24_ok {orc : List AV → Mem → Option (AV × Mem)} : SOk 24 { f24 with orc := orc } F24 := by
  intro call n vs m0 ho r h0
  simp only [F24] at h0
  obtain ⟨y0, v0, rfl, h1⟩ := unc_some h0
  obtain ⟨y1, v1, rfl, h2⟩ := unc_some h1
  obtain ⟨rfl, hz⟩ := unz_some h2
  exact bodyK_le ho rfl r (Eq.mp (by kernel_rfl) ((s24 call n m0 y0 y1).trans hz))

-- resolvent/pos.Var
def G25_0 (call : CL) (n : Nat) (m0 : Mem) (y0 y1 : AV) (m : Mem) : Rho :=
  buildK [(.int .i64 0), (.int .i64 0), (.int .i64 0)] [(0, 1, AV.untag1 y0), (1, 1, AV.untag1 (.int .i64 0)), (2, 1, AV.untag1 (.int .i64 1))] fun a0 =>
  buildSliceK 3 [(.int .i64 0), (.int .i64 0), (.int .i64 0)] 1 false [(0 * 3, 3, AV.untag a0)] m fun a1 m2 =>
  buildK [(.list .full 0 []), (.bool false)] [(0, 1, AV.untag1 a1)] fun a3 =>
  storeK 2 y1 a3 m2 fun a4 m5 =>
  loadK (some 2) y1 m5 fun a6 _ =>
  retK false false m0 [a6] m5
theorem g25_0 (call : CL) (n : Nat) (m0 : Mem) (y0 y1 : AV) (m : Mem) : evK call n b25_0 [(0, y0), (2, y1)] m (fun e m => endK f25 m0 .nrm e m) (endK f25 m0) = G25_0 call n m0 y0 y1 m := by kernel_rfl
def k25_0 (call : CL) (n : Nat) (m0 : Mem) : KN := (fun e m => endK f25 m0 .nrm e m)
def x25_0 (call : CL) (n : Nat) (m0 : Mem) : KX := (endK f25 m0)
def S25_0 (call : CL) (n : Nat) (m0 : Mem) (y0 y1 : AV) (m : Mem) : Rho := G25_0 call n m0 y0 y1 m
def d25_0 (call : CL) (n : Nat) (m0 : Mem) (y0 y1 : AV) (m : Mem) : Rho := evK call n b25_0 [(0, y0), (2, y1)] m (k25_0 call n m0) (x25_0 call n m0)
theorem l25_0 {call : CL} {n : Nat} {m0 : Mem} : d25_0 call n m0 = S25_0 call n m0 := by
  funext y0 y1 m
  have h : d25_0 call n m0 y0 y1 m = G25_0 call n m0 y0 y1 m := Eq.mp (by kernel_rfl) (g25_0 call n m0 y0 y1 m)
  exact h
def G25 (call : CL) (n : Nat) (m0 : Mem) (Q25_0 : Y2) (y0 : AV) (m : Mem) : Rho :=
  newK [(.list .full 0 []), (.bool false)] m fun a0 m1 =>
  binK .lss y0 (.int .i64 0) fun a2 =>
  condK a2
  (callK call (.func 10 [] []) false [(.bool true)] m1 fun a3 m4 =>
  storeK 2 a0 a3 m4 fun a5 m6 =>
  loadK (some 2) a0 m6 fun a7 _ =>
  retK false false m0 [a7] m6)
  (Q25_0 y0 a0 m1)
theorem g25 (call : CL) (n : Nat) (m0 : Mem) (b25_0 : C) (y0 : AV) (m : Mem) : evK call n (c25 b25_0) [(0, y0)] m (fun e m => endK f25 m0 .nrm e m) (endK f25 m0) = G25 call n m0 (fun x0 x1 m => evK call n b25_0 [(0, x0), (2, x1)] m (fun e m => endK f25 m0 .nrm e m) (endK f25 m0)) y0 m := by kernel_rfl
def S25 (call : CL) (n : Nat) (m0 : Mem) (y0 : AV) : Rho := G25 call n m0 (S25_0 call n m0) y0 { m0 with bad := none }
theorem s25 (call : CL) (n : Nat) (m0 : Mem) (y0 : AV) : bodyK call n f25 [y0] m0 = S25 call n m0 y0 :=
  have h : bodyK call n f25 [y0] m0 = G25 call n m0 (d25_0 call n m0) y0 { m0 with bad := none } := Eq.mp (by kernel_rfl) (g25 call n m0 b25_0 y0 { m0 with bad := none })
  by rw [l25_0] at h; exact h
def F25 : SF := fun call n vs m0 => unc vs fun x0 vs => unz vs (S25 call n m0 x0)
theorem F25_ok {orc : List AV → Mem → Option (AV × Mem)} : SOk 25 { f25 with orc := orc } F25 := by
  intro call n vs m0 ho r h0
  simp only [F25] at h0
  obtain ⟨y0, v0, rfl, h1⟩ := unc_some h0
  obtain ⟨rfl, hz⟩ := unz_some h1
  exact bodyK_le ho rfl r (Eq.mp (by kernel_rfl) ((s25 call n m0 y0).trans hz))

end
end Go.Proofs.P16
