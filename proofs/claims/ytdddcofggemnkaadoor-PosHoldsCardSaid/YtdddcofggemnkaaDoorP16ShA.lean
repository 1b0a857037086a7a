
import Derived.Test.YtdddcofggemnkaaDoorP16Fns
import Derived.Test.YtdddcofggemnkaaDoorAmK
namespace Go.Proofs.P16
set_option linter.all false
open Go Go.Am
noncomputable section
abbrev CL := Nat → List AV → Mem → Rho
abbrev Y0 := Mem → Rho
abbrev Y1 := AV → Y0
abbrev Y2 := AV → Y1
abbrev Y3 := AV → Y2
abbrev Y4 := AV → Y3
abbrev Y5 := AV → Y4
abbrev Y6 := AV → Y5
abbrev Y7 := AV → Y6
abbrev Y8 := AV → Y7
abbrev Y9 := AV → Y8
abbrev Y10 := AV → Y9
abbrev Y11 := AV → Y10
abbrev Y12 := AV → Y11

-- resolvent/resolventlaw16.PosHolds
def G3_26 (call : CL) (n : Nat) (m0 : Mem) (m : Mem) : Rho :=
  callK call (.func 5 [] []) false [] m fun a0 m1 =>
  retK false false m0 [a0] m1
theorem g3_26 (call : CL) (n : Nat) (m0 : Mem) (m : Mem) : evK call n b3_26 [] m (fun e m => endK f3 m0 .nrm e m) (endK f3 m0) = G3_26 call n m0 m := by kernel_rfl
def k3_26 (call : CL) (n : Nat) (m0 : Mem) : KN := (fun e m => endK f3 m0 .nrm e m)
def x3_26 (call : CL) (n : Nat) (m0 : Mem) : KX := (endK f3 m0)
def S3_26 (call : CL) (n : Nat) (m0 : Mem) (m : Mem) : Rho := G3_26 call n m0 m
def d3_26 (call : CL) (n : Nat) (m0 : Mem) (m : Mem) : Rho := evK call n b3_26 [] m (k3_26 call n m0) (x3_26 call n m0)
theorem l3_26 {call : CL} {n : Nat} {m0 : Mem} : d3_26 call n m0 = S3_26 call n m0 := by
  funext m
  have h : d3_26 call n m0 m = G3_26 call n m0 m := Eq.mp (by kernel_rfl) (g3_26 call n m0 m)
  exact h
def G3_23 (call : CL) (n : Nat) (kn : KN) (kx : KX) (y0 y1 y2 : AV) (m : Mem) : Rho :=
  binK .add y2 (.int .i64 1) fun a0 =>
  kn [(1, y0), (5, y1), (10, a0)] m
theorem g3_23 (call : CL) (n : Nat) (kn : KN) (kx : KX) (y0 y1 y2 : AV) (m : Mem) : evK call n b3_23 [(1, y0), (5, y1), (10, y2)] m kn kx = G3_23 call n kn kx y0 y1 y2 m := by kernel_rfl
def k3_23 (call : CL) (n : Nat) (kn : KN) (kx : KX) : KN := kn
def x3_23 (call : CL) (n : Nat) (kn : KN) (kx : KX) : KX := kx
def S3_23 (call : CL) (n : Nat) (kn : KN) (kx : KX) (y0 y1 y2 : AV) (m : Mem) : Rho := G3_23 call n kn kx y0 y1 y2 m
def d3_23 (call : CL) (n : Nat) (kn : KN) (kx : KX) (y0 y1 y2 : AV) (m : Mem) : Rho := evK call n b3_23 [(1, y0), (5, y1), (10, y2)] m (k3_23 call n kn kx) (x3_23 call n kn kx)
theorem l3_23 {call : CL} {n : Nat} {kn : KN} {kx : KX} : d3_23 call n kn kx = S3_23 call n kn kx := by
  funext y0 y1 y2 m
  have h : d3_23 call n kn kx y0 y1 y2 m = G3_23 call n kn kx y0 y1 y2 m := Eq.mp (by kernel_rfl) (g3_23 call n kn kx y0 y1 y2 m)
  exact h
def G3_18 (call : CL) (n : Nat) (kn : KN) (kx : KX) (y0 y1 y2 y3 : AV) (m : Mem) : Rho :=
  binK .add y3 (.int .i64 1) fun a0 =>
  kn [(1, y0), (5, y1), (10, y2), (18, a0)] m
theorem g3_18 (call : CL) (n : Nat) (kn : KN) (kx : KX) (y0 y1 y2 y3 : AV) (m : Mem) : evK call n b3_18 [(1, y0), (5, y1), (10, y2), (18, y3)] m kn kx = G3_18 call n kn kx y0 y1 y2 y3 m := by kernel_rfl
def k3_18 (call : CL) (n : Nat) (kn : KN) (kx : KX) : KN := kn
def x3_18 (call : CL) (n : Nat) (kn : KN) (kx : KX) : KX := kx
def S3_18 (call : CL) (n : Nat) (kn : KN) (kx : KX) (y0 y1 y2 y3 : AV) (m : Mem) : Rho := G3_18 call n kn kx y0 y1 y2 y3 m
def d3_18 (call : CL) (n : Nat) (kn : KN) (kx : KX) (y0 y1 y2 y3 : AV) (m : Mem) : Rho := evK call n b3_18 [(1, y0), (5, y1), (10, y2), (18, y3)] m (k3_18 call n kn kx) (x3_18 call n kn kx)
theorem l3_18 {call : CL} {n : Nat} {kn : KN} {kx : KX} : d3_18 call n kn kx = S3_18 call n kn kx := by
  funext y0 y1 y2 y3 m
  have h : d3_18 call n kn kx y0 y1 y2 y3 m = G3_18 call n kn kx y0 y1 y2 y3 m := Eq.mp (by kernel_rfl) (g3_18 call n kn kx y0 y1 y2 y3 m)
  exact h
def G3_19 (call : CL) (n : Nat) (kn : KN) (kx : KX) (Q3_18 : Y4) (y0 y1 y2 y3 : AV) (m : Mem) : Rho :=
  vK (aIndexAddr m 2 y1 y2) m fun a0 m1 =>
  loadK (some 2) a0 m1 fun a2 m3 =>
  callK call (.func 10 [] []) false [a2] m3 fun a4 m5 =>
  vK (aIndexAddr m5 2 y1 y3) m5 fun a6 m7 =>
  loadK (some 2) a6 m7 fun a8 m9 =>
  callK call (.func 10 [] []) false [a8] m9 fun a10 m11 =>
  binK .eql a4 a10 fun a12 =>
  vK (aIndexAddr m11 2 y1 y2) m11 fun a13 m14 =>
  loadK (some 2) a13 m14 fun a15 m16 =>
  vK (aIndexAddr m16 2 y1 y3) m16 fun a17 m18 =>
  loadK (some 2) a17 m18 fun a19 m20 =>
  callK call (.func 11 [] []) false [a15, a19] m20 fun a21 m22 =>
  eqvK ⟨[.b], false⟩ true a12 a21 fun a23 =>
  cond (stayK [m, m5, m11, m22] [(fun m => m.load (some 2) a6, a8, 0, 2, true), (fun m => m.load (some 2) a13, a15, 0, 3, true), (fun m => m.load (some 2) a17, a19, 0, 3, true)]) (condK a23
  (kx .ret [(4, (.bool false))] m22)
  (Q3_18 y0 y1 y2 y3 m22)) none
theorem g3_19 (call : CL) (n : Nat) (kn : KN) (kx : KX) (b3_18 : C) (y0 y1 y2 y3 : AV) (m : Mem) : evK call n (c3_19 b3_18) [(1, y0), (5, y1), (10, y2), (18, y3)] m kn kx = G3_19 call n kn kx (fun x0 x1 x2 x3 m => evK call n b3_18 [(1, x0), (5, x1), (10, x2), (18, x3)] m kn kx) y0 y1 y2 y3 m := by kernel_rfl
def k3_19 (call : CL) (n : Nat) (kn : KN) (kx : KX) : KN := kn
def x3_19 (call : CL) (n : Nat) (kn : KN) (kx : KX) : KX := kx
def S3_19 (call : CL) (n : Nat) (kn : KN) (kx : KX) (y0 y1 y2 y3 : AV) (m : Mem) : Rho := G3_19 call n kn kx (S3_18 call n kn kx) y0 y1 y2 y3 m
def d3_19 (call : CL) (n : Nat) (kn : KN) (kx : KX) (y0 y1 y2 y3 : AV) (m : Mem) : Rho := evK call n b3_19 [(1, y0), (5, y1), (10, y2), (18, y3)] m (k3_19 call n kn kx) (x3_19 call n kn kx)
theorem l3_19 {call : CL} {n : Nat} {kn : KN} {kx : KX} : d3_19 call n kn kx = S3_19 call n kn kx := by
  funext y0 y1 y2 y3 m
  have h : d3_19 call n kn kx y0 y1 y2 y3 m = G3_19 call n kn kx (d3_18 call n kn kx) y0 y1 y2 y3 m := Eq.mp (by kernel_rfl) (g3_19 call n kn kx b3_18 y0 y1 y2 y3 m)
  rw [l3_18] at h; exact h
def G3_20 (call : CL) (n : Nat) (kn : KN) (kx : KX) (Q3_19 : Y4) (y0 y1 y2 y3 : AV) (m : Mem) : Rho :=
  binK .lss y3 y2 fun a0 =>
  condK a0
  (Q3_19 y0 y1 y2 y3 m)
  (kx (.ext 12) [(1, y0), (5, y1), (10, y2), (18, y3), (154, a0)] m)
theorem g3_20 (call : CL) (n : Nat) (kn : KN) (kx : KX) (b3_19 : C) (y0 y1 y2 y3 : AV) (m : Mem) : evK call n (c3_20 b3_19) [(1, y0), (5, y1), (10, y2), (18, y3)] m kn kx = G3_20 call n kn kx (fun x0 x1 x2 x3 m => evK call n b3_19 [(1, x0), (5, x1), (10, x2), (18, x3)] m kn kx) y0 y1 y2 y3 m := by kernel_rfl
def S3_20 (call : CL) (n : Nat) (kn : KN) (kx : KX) (y0 y1 y2 y3 : AV) (m : Mem) : Rho := G3_20 call n kn kx (S3_19 call n kn kx) y0 y1 y2 y3 m
def d3_20 (call : CL) (n : Nat) (kn : KN) (kx : KX) (y0 y1 y2 y3 : AV) (m : Mem) : Rho := evK call n b3_20 [(1, y0), (5, y1), (10, y2), (18, y3)] m kn kx
theorem l3_20 {call : CL} {n : Nat} : d3_20 call n = S3_20 call n := by
  funext kn kx y0 y1 y2 y3 m
  have h : d3_20 call n kn kx y0 y1 y2 y3 m = G3_20 call n kn kx (d3_19 call n kn kx) y0 y1 y2 y3 m := Eq.mp (by kernel_rfl) (g3_20 call n kn kx b3_19 y0 y1 y2 y3 m)
  rw [l3_19] at h; exact h
def G3_21 (call : CL) (n : Nat) (kn : KN) (kx : KX) (B3_20 : KN → KX → Y4) (Q3_23 : Y3) (y0 y1 y2 : AV) (m : Mem) : Rho :=
  loopV [1, 5, 10, 18] none (fun vs m kn kx => unc vs fun x0 vs => unc vs fun x1 vs => unc vs fun x2 vs => unc vs fun x3 vs => unz vs (B3_20 kn kx x0 x1 x2 x3 m)) (blkK 12 (fun e m => keepK e [1, 5, 10] fun vs => unc vs fun x0 vs => unc vs fun x1 vs => unc vs fun x2 vs => unz vs (Q3_23 x0 x1 x2 m)) (blkK 5 (fun e m => keepK e [1, 5, 10] fun vs => unc vs fun x0 vs => unc vs fun x1 vs => unc vs fun x2 vs => unz vs (Q3_23 x0 x1 x2 m)) kx)) n [y0, y1, y2, (.int .i64 0)] m
theorem g3_21 (call : CL) (n : Nat) (kn : KN) (kx : KX) (b3_20 : C) (b3_23 : C) (k3_23 : KN) (x3_23 : KX) (y0 y1 y2 : AV) (m : Mem) : evK call n (c3_21 b3_20) [(1, y0), (5, y1), (10, y2)] m (jn call n [1, 5, 10] b3_23 k3_23 x3_23) (blkK 5 (jn call n [1, 5, 10] b3_23 k3_23 x3_23) kx) = G3_21 call n kn kx (fun kn kx x0 x1 x2 x3 m => evK call n b3_20 [(1, x0), (5, x1), (10, x2), (18, x3)] m kn kx) (fun x0 x1 x2 m => evK call n b3_23 [(1, x0), (5, x1), (10, x2)] m k3_23 x3_23) y0 y1 y2 m := by kernel_rfl
def k3_21 (call : CL) (n : Nat) (kn : KN) (kx : KX) : KN := (jn call n [1, 5, 10] b3_23 (k3_23 call n kn kx) (x3_23 call n kn kx))
def x3_21 (call : CL) (n : Nat) (kn : KN) (kx : KX) : KX := (blkK 5 (jn call n [1, 5, 10] b3_23 (k3_23 call n kn kx) (x3_23 call n kn kx)) kx)
def S3_21 (call : CL) (n : Nat) (kn : KN) (kx : KX) (y0 y1 y2 : AV) (m : Mem) : Rho := G3_21 call n kn kx (S3_20 call n) (S3_23 call n kn kx) y0 y1 y2 m
def d3_21 (call : CL) (n : Nat) (kn : KN) (kx : KX) (y0 y1 y2 : AV) (m : Mem) : Rho := evK call n b3_21 [(1, y0), (5, y1), (10, y2)] m (k3_21 call n kn kx) (x3_21 call n kn kx)
theorem l3_21 {call : CL} {n : Nat} {kn : KN} {kx : KX} : d3_21 call n kn kx = S3_21 call n kn kx := by
  funext y0 y1 y2 m
  have h : d3_21 call n kn kx y0 y1 y2 m = G3_21 call n kn kx (d3_20 call n) (d3_23 call n kn kx) y0 y1 y2 m := Eq.mp (by kernel_rfl) (g3_21 call n kn kx b3_20 b3_23 (k3_23 call n kn kx) (x3_23 call n kn kx) y0 y1 y2 m)
  rw [l3_20, l3_23] at h; exact h
def G3_22 (call : CL) (n : Nat) (kn : KN) (kx : KX) (Q3_21 : Y3) (y0 y1 y2 y3 : AV) (m : Mem) : Rho :=
  vK (aIndexAddr m 2 y1 y2) m fun a0 m1 =>
  loadK (some 2) a0 m1 fun a2 m3 =>
  callK call (.func 9 [] []) false [a2, y0] m3 fun a4 m5 =>
  eqvK ⟨[.b], false⟩ true a4 y3 fun a6 =>
  condK a6
  (kx .ret [(4, (.bool false))] m5)
  (Q3_21 y0 y1 y2 m5)
theorem g3_22 (call : CL) (n : Nat) (kn : KN) (kx : KX) (b3_21 : C) (b3_23 : C) (k3_23 : KN) (x3_23 : KX) (y0 y1 y2 y3 : AV) (m : Mem) : evK call n (c3_22 b3_21) [(1, y0), (5, y1), (10, y2), (12, y3)] m (jn call n [1, 5, 10] b3_23 k3_23 x3_23) (blkK 5 (jn call n [1, 5, 10] b3_23 k3_23 x3_23) kx) = G3_22 call n kn kx (fun x0 x1 x2 m => evK call n b3_21 [(1, x0), (5, x1), (10, x2)] m (jn call n [1, 5, 10] b3_23 k3_23 x3_23) (blkK 5 (jn call n [1, 5, 10] b3_23 k3_23 x3_23) kx)) y0 y1 y2 y3 m := by kernel_rfl
def k3_22 (call : CL) (n : Nat) (kn : KN) (kx : KX) : KN := (jn call n [1, 5, 10] b3_23 (k3_23 call n kn kx) (x3_23 call n kn kx))
def x3_22 (call : CL) (n : Nat) (kn : KN) (kx : KX) : KX := (blkK 5 (jn call n [1, 5, 10] b3_23 (k3_23 call n kn kx) (x3_23 call n kn kx)) kx)
def S3_22 (call : CL) (n : Nat) (kn : KN) (kx : KX) (y0 y1 y2 y3 : AV) (m : Mem) : Rho := G3_22 call n kn kx (S3_21 call n kn kx) y0 y1 y2 y3 m
def d3_22 (call : CL) (n : Nat) (kn : KN) (kx : KX) (y0 y1 y2 y3 : AV) (m : Mem) : Rho := evK call n b3_22 [(1, y0), (5, y1), (10, y2), (12, y3)] m (k3_22 call n kn kx) (x3_22 call n kn kx)
theorem l3_22 {call : CL} {n : Nat} {kn : KN} {kx : KX} : d3_22 call n kn kx = S3_22 call n kn kx := by
  funext y0 y1 y2 y3 m
  have h : d3_22 call n kn kx y0 y1 y2 y3 m = G3_22 call n kn kx (d3_21 call n kn kx) y0 y1 y2 y3 m := Eq.mp (by kernel_rfl) (g3_22 call n kn kx b3_21 b3_23 (k3_23 call n kn kx) (x3_23 call n kn kx) y0 y1 y2 y3 m)
  rw [l3_21] at h; exact h
def G3_14 (call : CL) (n : Nat) (kn : KN) (kx : KX) (y0 y1 y2 y3 y4 : AV) (m : Mem) : Rho :=
  binK .add y4 (.int .i64 1) fun a0 =>
  kn [(1, y0), (5, y1), (10, y2), (12, y3), (13, a0)] m
theorem g3_14 (call : CL) (n : Nat) (kn : KN) (kx : KX) (y0 y1 y2 y3 y4 : AV) (m : Mem) : evK call n b3_14 [(1, y0), (5, y1), (10, y2), (12, y3), (13, y4)] m kn kx = G3_14 call n kn kx y0 y1 y2 y3 y4 m := by kernel_rfl
def k3_14 (call : CL) (n : Nat) (kn : KN) (kx : KX) : KN := kn
def x3_14 (call : CL) (n : Nat) (kn : KN) (kx : KX) : KX := kx
def S3_14 (call : CL) (n : Nat) (kn : KN) (kx : KX) (y0 y1 y2 y3 y4 : AV) (m : Mem) : Rho := G3_14 call n kn kx y0 y1 y2 y3 y4 m
def d3_14 (call : CL) (n : Nat) (kn : KN) (kx : KX) (y0 y1 y2 y3 y4 : AV) (m : Mem) : Rho := evK call n b3_14 [(1, y0), (5, y1), (10, y2), (12, y3), (13, y4)] m (k3_14 call n kn kx) (x3_14 call n kn kx)
theorem l3_14 {call : CL} {n : Nat} {kn : KN} {kx : KX} : d3_14 call n kn kx = S3_14 call n kn kx := by
  funext y0 y1 y2 y3 y4 m
  have h : d3_14 call n kn kx y0 y1 y2 y3 y4 m = G3_14 call n kn kx y0 y1 y2 y3 y4 m := Eq.mp (by kernel_rfl) (g3_14 call n kn kx y0 y1 y2 y3 y4 m)
  exact h
def G3_13 (call : CL) (n : Nat) (kn : KN) (kx : KX) (Q3_14 : Y5) (y0 y1 y2 y3 y4 : AV) (m : Mem) : Rho :=
  vK (aIndexAddr m 2 y1 y2) m fun a0 m1 =>
  loadK (some 2) a0 m1 fun a2 m3 =>
  callK call (.func 8 [] []) false [a2, y4] m3 fun a4 m5 =>
  Q3_14 y0 y1 y2 a4 y3 m5
theorem g3_13 (call : CL) (n : Nat) (kn : KN) (kx : KX) (b3_14 : C) (k3_14 : KN) (x3_14 : KX) (y0 y1 y2 y3 y4 : AV) (m : Mem) : evK call n b3_13 [(1, y0), (5, y1), (10, y2), (13, y3), (14, y4)] m (jn call n [1, 5, 10, 12, 13] b3_14 k3_14 x3_14) (blkK 7 (jn call n [1, 5, 10, 12, 13] b3_14 k3_14 x3_14) kx) = G3_13 call n kn kx (fun x0 x1 x2 x3 x4 m => evK call n b3_14 [(1, x0), (5, x1), (10, x2), (12, x3), (13, x4)] m k3_14 x3_14) y0 y1 y2 y3 y4 m := by kernel_rfl
def k3_13 (call : CL) (n : Nat) (kn : KN) (kx : KX) : KN := (jn call n [1, 5, 10, 12, 13] b3_14 (k3_14 call n kn kx) (x3_14 call n kn kx))
def x3_13 (call : CL) (n : Nat) (kn : KN) (kx : KX) : KX := (blkK 7 (jn call n [1, 5, 10, 12, 13] b3_14 (k3_14 call n kn kx) (x3_14 call n kn kx)) kx)
def S3_13 (call : CL) (n : Nat) (kn : KN) (kx : KX) (y0 y1 y2 y3 y4 : AV) (m : Mem) : Rho := G3_13 call n kn kx (S3_14 call n kn kx) y0 y1 y2 y3 y4 m
def d3_13 (call : CL) (n : Nat) (kn : KN) (kx : KX) (y0 y1 y2 y3 y4 : AV) (m : Mem) : Rho := evK call n b3_13 [(1, y0), (5, y1), (10, y2), (13, y3), (14, y4)] m (k3_13 call n kn kx) (x3_13 call n kn kx)
theorem l3_13 {call : CL} {n : Nat} {kn : KN} {kx : KX} : d3_13 call n kn kx = S3_13 call n kn kx := by
  funext y0 y1 y2 y3 y4 m
  have h : d3_13 call n kn kx y0 y1 y2 y3 y4 m = G3_13 call n kn kx (d3_14 call n kn kx) y0 y1 y2 y3 y4 m := Eq.mp (by kernel_rfl) (g3_13 call n kn kx b3_14 (k3_14 call n kn kx) (x3_14 call n kn kx) y0 y1 y2 y3 y4 m)
  rw [l3_14] at h; exact h
def G3_10 (call : CL) (n : Nat) (kn : KN) (kx : KX) (y0 y1 y2 y3 y4 y5 : AV) (m : Mem) : Rho :=
  binK .add y5 (.int .i64 1) fun a0 =>
  kn [(1, y0), (5, y1), (10, y2), (13, y3), (14, y4), (15, a0)] m
theorem g3_10 (call : CL) (n : Nat) (kn : KN) (kx : KX) (y0 y1 y2 y3 y4 y5 : AV) (m : Mem) : evK call n b3_10 [(1, y0), (5, y1), (10, y2), (13, y3), (14, y4), (15, y5)] m kn kx = G3_10 call n kn kx y0 y1 y2 y3 y4 y5 m := by kernel_rfl
def k3_10 (call : CL) (n : Nat) (kn : KN) (kx : KX) : KN := kn
def x3_10 (call : CL) (n : Nat) (kn : KN) (kx : KX) : KX := kx
def S3_10 (call : CL) (n : Nat) (kn : KN) (kx : KX) (y0 y1 y2 y3 y4 y5 : AV) (m : Mem) : Rho := G3_10 call n kn kx y0 y1 y2 y3 y4 y5 m
def d3_10 (call : CL) (n : Nat) (kn : KN) (kx : KX) (y0 y1 y2 y3 y4 y5 : AV) (m : Mem) : Rho := evK call n b3_10 [(1, y0), (5, y1), (10, y2), (13, y3), (14, y4), (15, y5)] m (k3_10 call n kn kx) (x3_10 call n kn kx)
theorem l3_10 {call : CL} {n : Nat} {kn : KN} {kx : KX} : d3_10 call n kn kx = S3_10 call n kn kx := by
  funext y0 y1 y2 y3 y4 y5 m
  have h : d3_10 call n kn kx y0 y1 y2 y3 y4 y5 m = G3_10 call n kn kx y0 y1 y2 y3 y4 y5 m := Eq.mp (by kernel_rfl) (g3_10 call n kn kx y0 y1 y2 y3 y4 y5 m)
  exact h
def G3_9 (call : CL) (n : Nat) (kn : KN) (kx : KX) (Q3_10 : Y6) (y0 y1 y2 y3 y4 y5 y6 : AV) (m : Mem) : Rho :=
  condK y6
  (buildSliceK 1 [(.int .i64 0)] 1 false [(0 * 1, 1, AV.untag y5)] m fun a0 m1 =>
  appendK 1 8 0 y4 a0 m1 fun a2 m3 =>
  Q3_10 y0 y1 y2 y3 a2 y5 m3)
  (Q3_10 y0 y1 y2 y3 y4 y5 m)
theorem g3_9 (call : CL) (n : Nat) (kn : KN) (kx : KX) (b3_10 : C) (k3_10 : KN) (x3_10 : KX) (y0 y1 y2 y3 y4 y5 y6 : AV) (m : Mem) : evK call n b3_9 [(1, y0), (5, y1), (10, y2), (13, y3), (14, y4), (15, y5), (16, y6)] m (jn call n [1, 5, 10, 13, 14, 15] b3_10 k3_10 x3_10) (blkK 9 (jn call n [1, 5, 10, 13, 14, 15] b3_10 k3_10 x3_10) kx) = G3_9 call n kn kx (fun x0 x1 x2 x3 x4 x5 m => evK call n b3_10 [(1, x0), (5, x1), (10, x2), (13, x3), (14, x4), (15, x5)] m k3_10 x3_10) y0 y1 y2 y3 y4 y5 y6 m := by kernel_rfl
def k3_9 (call : CL) (n : Nat) (kn : KN) (kx : KX) : KN := (jn call n [1, 5, 10, 13, 14, 15] b3_10 (k3_10 call n kn kx) (x3_10 call n kn kx))
def x3_9 (call : CL) (n : Nat) (kn : KN) (kx : KX) : KX := (blkK 9 (jn call n [1, 5, 10, 13, 14, 15] b3_10 (k3_10 call n kn kx) (x3_10 call n kn kx)) kx)
def S3_9 (call : CL) (n : Nat) (kn : KN) (kx : KX) (y0 y1 y2 y3 y4 y5 y6 : AV) (m : Mem) : Rho := G3_9 call n kn kx (S3_10 call n kn kx) y0 y1 y2 y3 y4 y5 y6 m
def d3_9 (call : CL) (n : Nat) (kn : KN) (kx : KX) (y0 y1 y2 y3 y4 y5 y6 : AV) (m : Mem) : Rho := evK call n b3_9 [(1, y0), (5, y1), (10, y2), (13, y3), (14, y4), (15, y5), (16, y6)] m (k3_9 call n kn kx) (x3_9 call n kn kx)
theorem l3_9 {call : CL} {n : Nat} {kn : KN} {kx : KX} : d3_9 call n kn kx = S3_9 call n kn kx := by
  funext y0 y1 y2 y3 y4 y5 y6 m
  have h : d3_9 call n kn kx y0 y1 y2 y3 y4 y5 y6 m = G3_9 call n kn kx (d3_10 call n kn kx) y0 y1 y2 y3 y4 y5 y6 m := Eq.mp (by kernel_rfl) (g3_9 call n kn kx b3_10 (k3_10 call n kn kx) (x3_10 call n kn kx) y0 y1 y2 y3 y4 y5 y6 m)
  rw [l3_10] at h; exact h
def G3_7 (call : CL) (n : Nat) (kn : KN) (kx : KX) (y0 y1 y2 y3 y4 y5 y6 y7 : AV) (m : Mem) : Rho :=
  gK y6 true (fun k => k y0 m) m fun a0 m1 =>
  gK y6 true (fun k => k y5 m1) m1 fun a2 m3 =>
  gK y6 true (fun k => vK (aIndexAddr m3 1 a0 a2) m3 fun a4 m5 =>
  k a4 m5) m3 fun a6 m7 =>
  gK y6 true (fun k => loadK none a6 m7 fun a8 m9 =>
  k a8 m9) m7 fun a10 m11 =>
  gK y6 true (fun k => k y7 m11) m11 fun a12 m13 =>
  gK y6 true (fun k => vK (aIndexAddr m13 1 a10 a12) m13 fun a14 m15 =>
  k a14 m15) m13 fun a16 m17 =>
  gK y6 true (fun k => loadK none a16 m17 fun a18 m19 =>
  k a18 m19) m17 fun a20 m21 =>
  gK y6 true (fun k => binK .lss a20 (.int .i64 0) fun a22 =>
  k a22 m21) m21 fun a23 m24 =>
  gK y6 true (fun k => k a23 m24) m24 fun a25 m26 =>
  gK a25 false (fun k => k y3 m26) m26 fun a27 m28 =>
  gK a25 false (fun k => k y0 m28) m28 fun a29 m30 =>
  gK a25 false (fun k => k y5 m30) m30 fun a31 m32 =>
  gK a25 false (fun k => vK (aIndexAddr m32 1 a29 a31) m32 fun a33 m34 =>
  k a33 m34) m32 fun a35 m36 =>
  gK a25 false (fun k => loadK none a35 m36 fun a37 m38 =>
  k a37 m38) m36 fun a39 m40 =>
  gK a25 false (fun k => k y7 m40) m40 fun a41 m42 =>
  gK a25 false (fun k => vK (aIndexAddr m42 1 a39 a41) m42 fun a43 m44 =>
  k a43 m44) m42 fun a45 m46 =>
  gK a25 false (fun k => loadK none a45 m46 fun a47 m48 =>
  k a47 m48) m46 fun a49 m50 =>
  gK a25 false (fun k => callK call (.func 7 [] []) false [a27, a49] m50 fun a51 m52 =>
  k a51 m52) m50 fun a53 m54 =>
  gK y6 true (fun k => pickK a25 (some (.bool true)) (some a53) fun a55 =>
  k a55 m54) m54 fun a56 m57 =>
  pickK y6 (some a56) (some (.bool false)) fun a58 =>
  binK .add y7 (.int .i64 1) fun a59 =>
  kn [(1, y0), (5, y1), (10, y2), (13, y3), (14, y4), (15, y5), (16, a58), (17, a59)] m57
theorem g3_7 (call : CL) (n : Nat) (kn : KN) (kx : KX) (y0 y1 y2 y3 y4 y5 y6 y7 : AV) (m : Mem) : evK call n b3_7 [(1, y0), (5, y1), (10, y2), (13, y3), (14, y4), (15, y5), (16, y6), (17, y7)] m kn kx = G3_7 call n kn kx y0 y1 y2 y3 y4 y5 y6 y7 m := by kernel_rfl
def k3_7 (call : CL) (n : Nat) (kn : KN) (kx : KX) : KN := kn
def x3_7 (call : CL) (n : Nat) (kn : KN) (kx : KX) : KX := kx
def S3_7 (call : CL) (n : Nat) (kn : KN) (kx : KX) (y0 y1 y2 y3 y4 y5 y6 y7 : AV) (m : Mem) : Rho := G3_7 call n kn kx y0 y1 y2 y3 y4 y5 y6 y7 m
def d3_7 (call : CL) (n : Nat) (kn : KN) (kx : KX) (y0 y1 y2 y3 y4 y5 y6 y7 : AV) (m : Mem) : Rho := evK call n b3_7 [(1, y0), (5, y1), (10, y2), (13, y3), (14, y4), (15, y5), (16, y6), (17, y7)] m (k3_7 call n kn kx) (x3_7 call n kn kx)
theorem l3_7 {call : CL} {n : Nat} {kn : KN} {kx : KX} : d3_7 call n kn kx = S3_7 call n kn kx := by
  funext y0 y1 y2 y3 y4 y5 y6 y7 m
  have h : d3_7 call n kn kx y0 y1 y2 y3 y4 y5 y6 y7 m = G3_7 call n kn kx y0 y1 y2 y3 y4 y5 y6 y7 m := Eq.mp (by kernel_rfl) (g3_7 call n kn kx y0 y1 y2 y3 y4 y5 y6 y7 m)
  exact h
def G3_8 (call : CL) (n : Nat) (kn : KN) (kx : KX) (Q3_7 : Y8) (y0 y1 y2 y3 y4 y5 y6 y7 : AV) (m : Mem) : Rho :=
  vK (aIndexAddr m 1 y0 y5) m fun a0 m1 =>
  loadK none a0 m1 fun a2 m3 =>
  vK (aLen m3 1 a2) m3 fun a4 m5 =>
  binK .lss y7 a4 fun a6 =>
  condK a6
  (Q3_7 y0 y1 y2 y3 y4 y5 y6 y7 m5)
  (kx (.ext 10) [(1, y0), (5, y1), (10, y2), (13, y3), (14, y4), (15, y5), (16, y6), (17, y7), (108, a6)] m5)
theorem g3_8 (call : CL) (n : Nat) (kn : KN) (kx : KX) (b3_7 : C) (y0 y1 y2 y3 y4 y5 y6 y7 : AV) (m : Mem) : evK call n (c3_8 b3_7) [(1, y0), (5, y1), (10, y2), (13, y3), (14, y4), (15, y5), (16, y6), (17, y7)] m kn kx = G3_8 call n kn kx (fun x0 x1 x2 x3 x4 x5 x6 x7 m => evK call n b3_7 [(1, x0), (5, x1), (10, x2), (13, x3), (14, x4), (15, x5), (16, x6), (17, x7)] m kn kx) y0 y1 y2 y3 y4 y5 y6 y7 m := by kernel_rfl
def S3_8 (call : CL) (n : Nat) (kn : KN) (kx : KX) (y0 y1 y2 y3 y4 y5 y6 y7 : AV) (m : Mem) : Rho := G3_8 call n kn kx (S3_7 call n kn kx) y0 y1 y2 y3 y4 y5 y6 y7 m
def d3_8 (call : CL) (n : Nat) (kn : KN) (kx : KX) (y0 y1 y2 y3 y4 y5 y6 y7 : AV) (m : Mem) : Rho := evK call n b3_8 [(1, y0), (5, y1), (10, y2), (13, y3), (14, y4), (15, y5), (16, y6), (17, y7)] m kn kx
theorem l3_8 {call : CL} {n : Nat} : d3_8 call n = S3_8 call n := by
  funext kn kx y0 y1 y2 y3 y4 y5 y6 y7 m
  have h : d3_8 call n kn kx y0 y1 y2 y3 y4 y5 y6 y7 m = G3_8 call n kn kx (d3_7 call n kn kx) y0 y1 y2 y3 y4 y5 y6 y7 m := Eq.mp (by kernel_rfl) (g3_8 call n kn kx b3_7 y0 y1 y2 y3 y4 y5 y6 y7 m)
  rw [l3_7] at h; exact h
def G3_11 (call : CL) (n : Nat) (kn : KN) (kx : KX) (B3_8 : KN → KX → Y8) (Q3_9 : Y7) (Q3_10 : Y6) (y0 y1 y2 y3 y4 y5 : AV) (m : Mem) : Rho :=
  loopV [1, 5, 10, 13, 14, 15, 16, 17] none (fun vs m kn kx => unc vs fun x0 vs => unc vs fun x1 vs => unc vs fun x2 vs => unc vs fun x3 vs => unc vs fun x4 vs => unc vs fun x5 vs => unc vs fun x6 vs => unc vs fun x7 vs => unz vs (B3_8 kn kx x0 x1 x2 x3 x4 x5 x6 x7 m)) (blkK 10 (fun e m => keepK e [1, 5, 10, 13, 14, 15, 16] fun vs => unc vs fun x0 vs => unc vs fun x1 vs => unc vs fun x2 vs => unc vs fun x3 vs => unc vs fun x4 vs => unc vs fun x5 vs => unc vs fun x6 vs => unz vs (Q3_9 x0 x1 x2 x3 x4 x5 x6 m)) (blkK 9 (fun e m => keepK e [1, 5, 10, 13, 14, 15] fun vs => unc vs fun x0 vs => unc vs fun x1 vs => unc vs fun x2 vs => unc vs fun x3 vs => unc vs fun x4 vs => unc vs fun x5 vs => unz vs (Q3_10 x0 x1 x2 x3 x4 x5 m)) kx)) n [y0, y1, y2, y3, y4, y5, (.bool true), (.int .i64 0)] m
theorem g3_11 (call : CL) (n : Nat) (kn : KN) (kx : KX) (b3_8 : C) (b3_9 : C) (b3_10 : C) (y0 y1 y2 y3 y4 y5 : AV) (m : Mem) : evK call n (c3_11 b3_8 b3_9 b3_10) [(1, y0), (5, y1), (10, y2), (13, y3), (14, y4), (15, y5)] m kn kx = G3_11 call n kn kx (fun kn kx x0 x1 x2 x3 x4 x5 x6 x7 m => evK call n b3_8 [(1, x0), (5, x1), (10, x2), (13, x3), (14, x4), (15, x5), (16, x6), (17, x7)] m kn kx) (fun x0 x1 x2 x3 x4 x5 x6 m => evK call n b3_9 [(1, x0), (5, x1), (10, x2), (13, x3), (14, x4), (15, x5), (16, x6)] m (jn call n [1, 5, 10, 13, 14, 15] b3_10 kn kx) (blkK 9 (jn call n [1, 5, 10, 13, 14, 15] b3_10 kn kx) kx)) (fun x0 x1 x2 x3 x4 x5 m => evK call n b3_10 [(1, x0), (5, x1), (10, x2), (13, x3), (14, x4), (15, x5)] m kn kx) y0 y1 y2 y3 y4 y5 m := by kernel_rfl
def k3_11 (call : CL) (n : Nat) (kn : KN) (kx : KX) : KN := kn
def x3_11 (call : CL) (n : Nat) (kn : KN) (kx : KX) : KX := kx
def S3_11 (call : CL) (n : Nat) (kn : KN) (kx : KX) (y0 y1 y2 y3 y4 y5 : AV) (m : Mem) : Rho := G3_11 call n kn kx (S3_8 call n) (S3_9 call n kn kx) (S3_10 call n kn kx) y0 y1 y2 y3 y4 y5 m
def d3_11 (call : CL) (n : Nat) (kn : KN) (kx : KX) (y0 y1 y2 y3 y4 y5 : AV) (m : Mem) : Rho := evK call n b3_11 [(1, y0), (5, y1), (10, y2), (13, y3), (14, y4), (15, y5)] m (k3_11 call n kn kx) (x3_11 call n kn kx)
theorem l3_11 {call : CL} {n : Nat} {kn : KN} {kx : KX} : d3_11 call n kn kx = S3_11 call n kn kx := by
  funext y0 y1 y2 y3 y4 y5 m
  have h : d3_11 call n kn kx y0 y1 y2 y3 y4 y5 m = G3_11 call n kn kx (d3_8 call n) (d3_9 call n kn kx) (d3_10 call n kn kx) y0 y1 y2 y3 y4 y5 m := Eq.mp (by kernel_rfl) (g3_11 call n kn kx b3_8 b3_9 b3_10 y0 y1 y2 y3 y4 y5 m)
  rw [l3_8, l3_9, l3_10] at h; exact h
def G3_12 (call : CL) (n : Nat) (kn : KN) (kx : KX) (Q3_11 : Y6) (y0 y1 y2 y3 y4 y5 : AV) (m : Mem) : Rho :=
  vK (aLen m 1 y0) m fun a0 m1 =>
  binK .lss y5 a0 fun a2 =>
  condK a2
  (Q3_11 y0 y1 y2 y3 y4 y5 m1)
  (kx (.ext 8) [(1, y0), (5, y1), (10, y2), (13, y3), (14, y4), (15, y5), (99, a2)] m1)
theorem g3_12 (call : CL) (n : Nat) (kn : KN) (kx : KX) (b3_11 : C) (y0 y1 y2 y3 y4 y5 : AV) (m : Mem) : evK call n (c3_12 b3_11) [(1, y0), (5, y1), (10, y2), (13, y3), (14, y4), (15, y5)] m kn kx = G3_12 call n kn kx (fun x0 x1 x2 x3 x4 x5 m => evK call n b3_11 [(1, x0), (5, x1), (10, x2), (13, x3), (14, x4), (15, x5)] m kn kx) y0 y1 y2 y3 y4 y5 m := by kernel_rfl
def S3_12 (call : CL) (n : Nat) (kn : KN) (kx : KX) (y0 y1 y2 y3 y4 y5 : AV) (m : Mem) : Rho := G3_12 call n kn kx (S3_11 call n kn kx) y0 y1 y2 y3 y4 y5 m
def d3_12 (call : CL) (n : Nat) (kn : KN) (kx : KX) (y0 y1 y2 y3 y4 y5 : AV) (m : Mem) : Rho := evK call n b3_12 [(1, y0), (5, y1), (10, y2), (13, y3), (14, y4), (15, y5)] m kn kx
theorem l3_12 {call : CL} {n : Nat} : d3_12 call n = S3_12 call n := by
  funext kn kx y0 y1 y2 y3 y4 y5 m
  have h : d3_12 call n kn kx y0 y1 y2 y3 y4 y5 m = G3_12 call n kn kx (d3_11 call n kn kx) y0 y1 y2 y3 y4 y5 m := Eq.mp (by kernel_rfl) (g3_12 call n kn kx b3_11 y0 y1 y2 y3 y4 y5 m)
  rw [l3_11] at h; exact h
def G3_15 (call : CL) (n : Nat) (kn : KN) (kx : KX) (B3_12 : KN → KX → Y6) (Q3_13 : Y5) (Q3_14 : Y5) (y0 y1 y2 y3 : AV) (m : Mem) : Rho :=
  tipK 1 m fun a0 m1 =>
  loopV [1, 5, 10, 13, 14, 15] none (fun vs m kn kx => unc vs fun x0 vs => unc vs fun x1 vs => unc vs fun x2 vs => unc vs fun x3 vs => unc vs fun x4 vs => unc vs fun x5 vs => unz vs (B3_12 kn kx x0 x1 x2 x3 x4 x5 m)) (blkK 8 (fun e m => keepK e [1, 5, 10, 13, 14] fun vs => unc vs fun x0 vs => unc vs fun x1 vs => unc vs fun x2 vs => unc vs fun x3 vs => unc vs fun x4 vs => unz vs (Q3_13 x0 x1 x2 x3 x4 m)) (blkK 7 (fun e m => keepK e [1, 5, 10, 12, 13] fun vs => unc vs fun x0 vs => unc vs fun x1 vs => unc vs fun x2 vs => unc vs fun x3 vs => unc vs fun x4 vs => unz vs (Q3_14 x0 x1 x2 x3 x4 m)) kx)) n [y0, y1, y2, y3, a0, (.int .i64 0)] m1
theorem g3_15 (call : CL) (n : Nat) (kn : KN) (kx : KX) (b3_12 : C) (b3_13 : C) (b3_14 : C) (y0 y1 y2 y3 : AV) (m : Mem) : evK call n (c3_15 b3_12 b3_13 b3_14) [(1, y0), (5, y1), (10, y2), (13, y3)] m kn kx = G3_15 call n kn kx (fun kn kx x0 x1 x2 x3 x4 x5 m => evK call n b3_12 [(1, x0), (5, x1), (10, x2), (13, x3), (14, x4), (15, x5)] m kn kx) (fun x0 x1 x2 x3 x4 m => evK call n b3_13 [(1, x0), (5, x1), (10, x2), (13, x3), (14, x4)] m (jn call n [1, 5, 10, 12, 13] b3_14 kn kx) (blkK 7 (jn call n [1, 5, 10, 12, 13] b3_14 kn kx) kx)) (fun x0 x1 x2 x3 x4 m => evK call n b3_14 [(1, x0), (5, x1), (10, x2), (12, x3), (13, x4)] m kn kx) y0 y1 y2 y3 m := by kernel_rfl
def k3_15 (call : CL) (n : Nat) (kn : KN) (kx : KX) : KN := kn
def x3_15 (call : CL) (n : Nat) (kn : KN) (kx : KX) : KX := kx
def S3_15 (call : CL) (n : Nat) (kn : KN) (kx : KX) (y0 y1 y2 y3 : AV) (m : Mem) : Rho := G3_15 call n kn kx (S3_12 call n) (S3_13 call n kn kx) (S3_14 call n kn kx) y0 y1 y2 y3 m
def d3_15 (call : CL) (n : Nat) (kn : KN) (kx : KX) (y0 y1 y2 y3 : AV) (m : Mem) : Rho := evK call n b3_15 [(1, y0), (5, y1), (10, y2), (13, y3)] m (k3_15 call n kn kx) (x3_15 call n kn kx)
theorem l3_15 {call : CL} {n : Nat} {kn : KN} {kx : KX} : d3_15 call n kn kx = S3_15 call n kn kx := by
  funext y0 y1 y2 y3 m
  have h : d3_15 call n kn kx y0 y1 y2 y3 m = G3_15 call n kn kx (d3_12 call n) (d3_13 call n kn kx) (d3_14 call n kn kx) y0 y1 y2 y3 m := Eq.mp (by kernel_rfl) (g3_15 call n kn kx b3_12 b3_13 b3_14 y0 y1 y2 y3 m)
  rw [l3_12, l3_13, l3_14] at h; exact h
def G3_16 (call : CL) (n : Nat) (kn : KN) (kx : KX) (Q3_15 : Y4) (y0 y1 y2 y3 y4 : AV) (m : Mem) : Rho :=
  binK .lss y4 (.int .i64 64) fun a0 =>
  gK a0 true (fun k => k y3 m) m fun a1 m2 =>
  pickK a0 (some a1) (some (.bool false)) fun a3 =>
  condK a3
  (Q3_15 y0 y1 y2 y4 m2)
  (kx (.ext 6) [(1, y0), (5, y1), (10, y2), (12, y3), (13, y4), (93, a3)] m2)
theorem g3_16 (call : CL) (n : Nat) (kn : KN) (kx : KX) (b3_15 : C) (y0 y1 y2 y3 y4 : AV) (m : Mem) : evK call n (c3_16 b3_15) [(1, y0), (5, y1), (10, y2), (12, y3), (13, y4)] m kn kx = G3_16 call n kn kx (fun x0 x1 x2 x3 m => evK call n b3_15 [(1, x0), (5, x1), (10, x2), (13, x3)] m kn kx) y0 y1 y2 y3 y4 m := by kernel_rfl
def S3_16 (call : CL) (n : Nat) (kn : KN) (kx : KX) (y0 y1 y2 y3 y4 : AV) (m : Mem) : Rho := G3_16 call n kn kx (S3_15 call n kn kx) y0 y1 y2 y3 y4 m
def d3_16 (call : CL) (n : Nat) (kn : KN) (kx : KX) (y0 y1 y2 y3 y4 : AV) (m : Mem) : Rho := evK call n b3_16 [(1, y0), (5, y1), (10, y2), (12, y3), (13, y4)] m kn kx
theorem l3_16 {call : CL} {n : Nat} : d3_16 call n = S3_16 call n := by
  funext kn kx y0 y1 y2 y3 y4 m
  have h : d3_16 call n kn kx y0 y1 y2 y3 y4 m = G3_16 call n kn kx (d3_15 call n kn kx) y0 y1 y2 y3 y4 m := Eq.mp (by kernel_rfl) (g3_16 call n kn kx b3_15 y0 y1 y2 y3 y4 m)
  rw [l3_15] at h; exact h
def G3_24 (call : CL) (n : Nat) (kn : KN) (kx : KX) (B3_16 : KN → KX → Y5) (Q3_22 : Y4) (Q3_23 : Y3) (y0 y1 y2 : AV) (m : Mem) : Rho :=
  vK (aIndexAddr m 2 y1 y2) m fun a0 m1 =>
  loadK (some 2) a0 m1 fun a2 m3 =>
  callK call (.func 6 [] []) false [a2] m3 fun a4 m5 =>
  vK (aLen m5 1 a4) m5 fun a6 m7 =>
  binK .eql a6 (.int .i64 0) fun a8 =>
  gK a8 false (fun k => k a4 m7) m7 fun a9 m10 =>
  gK a8 false (fun k => k a4 m10) m10 fun a11 m12 =>
  gK a8 false (fun k => vK (aLen m12 1 a11) m12 fun a13 m14 =>
  k a13 m14) m12 fun a15 m16 =>
  gK a8 false (fun k => binK .sub a15 (.int .i64 1) fun a17 =>
  k a17 m16) m16 fun a18 m19 =>
  gK a8 false (fun k => vK (aIndexAddr m19 1 a9 a18) m19 fun a20 m21 =>
  k a20 m21) m19 fun a22 m23 =>
  gK a8 false (fun k => loadK none a22 m23 fun a24 m25 =>
  k a24 m25) m23 fun a26 m27 =>
  gK a8 false (fun k => k y0 m27) m27 fun a28 m29 =>
  gK a8 false (fun k => vK (aLen m29 1 a28) m29 fun a30 m31 =>
  k a30 m31) m29 fun a32 m33 =>
  gK a8 false (fun k => binK .lss a26 a32 fun a34 =>
  k a34 m33) m33 fun a35 m36 =>
  pickK a8 (some (.bool true)) (some a35) fun a37 =>
  loopV [1, 5, 10, 12, 13] none (fun vs m kn kx => unc vs fun x0 vs => unc vs fun x1 vs => unc vs fun x2 vs => unc vs fun x3 vs => unc vs fun x4 vs => unz vs (B3_16 kn kx x0 x1 x2 x3 x4 m)) (blkK 6 (fun e m => keepK e [1, 5, 10, 12] fun vs => unc vs fun x0 vs => unc vs fun x1 vs => unc vs fun x2 vs => unc vs fun x3 vs => unz vs (Q3_22 x0 x1 x2 x3 m)) (blkK 5 (fun e m => keepK e [1, 5, 10] fun vs => unc vs fun x0 vs => unc vs fun x1 vs => unc vs fun x2 vs => unz vs (Q3_23 x0 x1 x2 m)) kx)) n [y0, y1, y2, a37, (.int .i64 0)] m36
theorem g3_24 (call : CL) (n : Nat) (kn : KN) (kx : KX) (b3_16 : C) (b3_22 : C) (b3_23 : C) (y0 y1 y2 : AV) (m : Mem) : evK call n (c3_24 b3_16 b3_22 b3_23) [(1, y0), (5, y1), (10, y2)] m kn kx = G3_24 call n kn kx (fun kn kx x0 x1 x2 x3 x4 m => evK call n b3_16 [(1, x0), (5, x1), (10, x2), (12, x3), (13, x4)] m kn kx) (fun x0 x1 x2 x3 m => evK call n b3_22 [(1, x0), (5, x1), (10, x2), (12, x3)] m (jn call n [1, 5, 10] b3_23 kn kx) (blkK 5 (jn call n [1, 5, 10] b3_23 kn kx) kx)) (fun x0 x1 x2 m => evK call n b3_23 [(1, x0), (5, x1), (10, x2)] m kn kx) y0 y1 y2 m := by kernel_rfl
def k3_24 (call : CL) (n : Nat) (kn : KN) (kx : KX) : KN := kn
def x3_24 (call : CL) (n : Nat) (kn : KN) (kx : KX) : KX := kx
def S3_24 (call : CL) (n : Nat) (kn : KN) (kx : KX) (y0 y1 y2 : AV) (m : Mem) : Rho := G3_24 call n kn kx (S3_16 call n) (S3_22 call n kn kx) (S3_23 call n kn kx) y0 y1 y2 m
def d3_24 (call : CL) (n : Nat) (kn : KN) (kx : KX) (y0 y1 y2 : AV) (m : Mem) : Rho := evK call n b3_24 [(1, y0), (5, y1), (10, y2)] m (k3_24 call n kn kx) (x3_24 call n kn kx)
theorem l3_24 {call : CL} {n : Nat} {kn : KN} {kx : KX} : d3_24 call n kn kx = S3_24 call n kn kx := by
  funext y0 y1 y2 m
  have h : d3_24 call n kn kx y0 y1 y2 m = G3_24 call n kn kx (d3_16 call n) (d3_22 call n kn kx) (d3_23 call n kn kx) y0 y1 y2 m := Eq.mp (by kernel_rfl) (g3_24 call n kn kx b3_16 b3_22 b3_23 y0 y1 y2 m)
  rw [l3_16, l3_22, l3_23] at h; exact h
def G3_25 (call : CL) (n : Nat) (kn : KN) (kx : KX) (Q3_24 : Y3) (y0 y1 y2 : AV) (m : Mem) : Rho :=
  vK (aLen m 1 y1) m fun a0 m1 =>
  binK .lss y2 a0 fun a2 =>
  condK a2
  (Q3_24 y0 y1 y2 m1)
  (kx (.ext 4) [(1, y0), (5, y1), (10, y2), (67, a2)] m1)
theorem g3_25 (call : CL) (n : Nat) (kn : KN) (kx : KX) (b3_24 : C) (y0 y1 y2 : AV) (m : Mem) : evK call n (c3_25 b3_24) [(1, y0), (5, y1), (10, y2)] m kn kx = G3_25 call n kn kx (fun x0 x1 x2 m => evK call n b3_24 [(1, x0), (5, x1), (10, x2)] m kn kx) y0 y1 y2 m := by kernel_rfl
def S3_25 (call : CL) (n : Nat) (kn : KN) (kx : KX) (y0 y1 y2 : AV) (m : Mem) : Rho := G3_25 call n kn kx (S3_24 call n kn kx) y0 y1 y2 m
def d3_25 (call : CL) (n : Nat) (kn : KN) (kx : KX) (y0 y1 y2 : AV) (m : Mem) : Rho := evK call n b3_25 [(1, y0), (5, y1), (10, y2)] m kn kx
theorem l3_25 {call : CL} {n : Nat} : d3_25 call n = S3_25 call n := by
  funext kn kx y0 y1 y2 m
  have h : d3_25 call n kn kx y0 y1 y2 m = G3_25 call n kn kx (d3_24 call n kn kx) y0 y1 y2 m := Eq.mp (by kernel_rfl) (g3_25 call n kn kx b3_24 y0 y1 y2 m)
  rw [l3_24] at h; exact h
def G3_27 (call : CL) (n : Nat) (m0 : Mem) (B3_25 : KN → KX → Y3) (Q3_26 : Y0) (y0 y1 : AV) (m : Mem) : Rho :=
  loopV [1, 5, 10] none (fun vs m kn kx => unc vs fun x0 vs => unc vs fun x1 vs => unc vs fun x2 vs => unz vs (B3_25 kn kx x0 x1 x2 m)) (blkK 4 (fun e m => keepK e [] fun vs => unz vs (Q3_26 m)) (endK f3 m0)) n [y0, y1, (.int .i64 0)] m
theorem g3_27 (call : CL) (n : Nat) (m0 : Mem) (b3_25 : C) (b3_26 : C) (y0 y1 : AV) (m : Mem) : evK call n (c3_27 b3_25 b3_26) [(1, y0), (5, y1)] m (fun e m => endK f3 m0 .nrm e m) (endK f3 m0) = G3_27 call n m0 (fun kn kx x0 x1 x2 m => evK call n b3_25 [(1, x0), (5, x1), (10, x2)] m kn kx) (fun m => evK call n b3_26 [] m (fun e m => endK f3 m0 .nrm e m) (endK f3 m0)) y0 y1 m := by kernel_rfl
def k3_27 (call : CL) (n : Nat) (m0 : Mem) : KN := (fun e m => endK f3 m0 .nrm e m)
def x3_27 (call : CL) (n : Nat) (m0 : Mem) : KX := (endK f3 m0)
def S3_27 (call : CL) (n : Nat) (m0 : Mem) (y0 y1 : AV) (m : Mem) : Rho := G3_27 call n m0 (S3_25 call n) (S3_26 call n m0) y0 y1 m
def d3_27 (call : CL) (n : Nat) (m0 : Mem) (y0 y1 : AV) (m : Mem) : Rho := evK call n b3_27 [(1, y0), (5, y1)] m (k3_27 call n m0) (x3_27 call n m0)
theorem l3_27 {call : CL} {n : Nat} {m0 : Mem} : d3_27 call n m0 = S3_27 call n m0 := by
  funext y0 y1 m
  have h : d3_27 call n m0 y0 y1 m = G3_27 call n m0 (d3_25 call n) (d3_26 call n m0) y0 y1 m := Eq.mp (by kernel_rfl) (g3_27 call n m0 b3_25 b3_26 y0 y1 m)
  rw [l3_25, l3_26] at h; exact h
def G3_4 (call : CL) (n : Nat) (kn : KN) (kx : KX) (y0 y1 y2 : AV) (m : Mem) : Rho :=
  binK .add y2 (.int .i64 1) fun a0 =>
  kn [(1, y0), (5, y1), (8, a0)] m
theorem g3_4 (call : CL) (n : Nat) (kn : KN) (kx : KX) (y0 y1 y2 : AV) (m : Mem) : evK call n b3_4 [(1, y0), (5, y1), (8, y2)] m kn kx = G3_4 call n kn kx y0 y1 y2 m := by kernel_rfl
def k3_4 (call : CL) (n : Nat) (kn : KN) (kx : KX) : KN := kn
def x3_4 (call : CL) (n : Nat) (kn : KN) (kx : KX) : KX := kx
def S3_4 (call : CL) (n : Nat) (kn : KN) (kx : KX) (y0 y1 y2 : AV) (m : Mem) : Rho := G3_4 call n kn kx y0 y1 y2 m
def d3_4 (call : CL) (n : Nat) (kn : KN) (kx : KX) (y0 y1 y2 : AV) (m : Mem) : Rho := evK call n b3_4 [(1, y0), (5, y1), (8, y2)] m (k3_4 call n kn kx) (x3_4 call n kn kx)
theorem l3_4 {call : CL} {n : Nat} {kn : KN} {kx : KX} : d3_4 call n kn kx = S3_4 call n kn kx := by
  funext y0 y1 y2 m
  have h : d3_4 call n kn kx y0 y1 y2 m = G3_4 call n kn kx y0 y1 y2 m := Eq.mp (by kernel_rfl) (g3_4 call n kn kx y0 y1 y2 m)
  exact h
def G3_0 (call : CL) (n : Nat) (kn : KN) (kx : KX) (y0 y1 y2 y3 : AV) (m : Mem) : Rho :=
  binK .add y3 (.int .i64 1) fun a0 =>
  kn [(1, y0), (5, y1), (8, y2), (9, a0)] m
theorem g3_0 (call : CL) (n : Nat) (kn : KN) (kx : KX) (y0 y1 y2 y3 : AV) (m : Mem) : evK call n b3_0 [(1, y0), (5, y1), (8, y2), (9, y3)] m kn kx = G3_0 call n kn kx y0 y1 y2 y3 m := by kernel_rfl
def k3_0 (call : CL) (n : Nat) (kn : KN) (kx : KX) : KN := kn
def x3_0 (call : CL) (n : Nat) (kn : KN) (kx : KX) : KX := kx
def S3_0 (call : CL) (n : Nat) (kn : KN) (kx : KX) (y0 y1 y2 y3 : AV) (m : Mem) : Rho := G3_0 call n kn kx y0 y1 y2 y3 m
def d3_0 (call : CL) (n : Nat) (kn : KN) (kx : KX) (y0 y1 y2 y3 : AV) (m : Mem) : Rho := evK call n b3_0 [(1, y0), (5, y1), (8, y2), (9, y3)] m (k3_0 call n kn kx) (x3_0 call n kn kx)
theorem l3_0 {call : CL} {n : Nat} {kn : KN} {kx : KX} : d3_0 call n kn kx = S3_0 call n kn kx := by
  funext y0 y1 y2 y3 m
  have h : d3_0 call n kn kx y0 y1 y2 y3 m = G3_0 call n kn kx y0 y1 y2 y3 m := Eq.mp (by kernel_rfl) (g3_0 call n kn kx y0 y1 y2 y3 m)
  exact h
def G3_1 (call : CL) (n : Nat) (kn : KN) (kx : KX) (Q3_0 : Y4) (y0 y1 y2 y3 : AV) (m : Mem) : Rho :=
  vK (aIndexAddr m 1 y0 y2) m fun a0 m1 =>
  loadK none a0 m1 fun a2 m3 =>
  vK (aIndexAddr m3 1 a2 y3) m3 fun a4 m5 =>
  loadK none a4 m5 fun a6 m7 =>
  binK .gtr a6 (.int .i64 5) fun a8 =>
  condK a8
  (callK call (.func 5 [] []) false [] m7 fun a9 m10 =>
  kx .ret [(4, a9)] m10)
  (Q3_0 y0 y1 y2 y3 m7)
theorem g3_1 (call : CL) (n : Nat) (kn : KN) (kx : KX) (b3_0 : C) (y0 y1 y2 y3 : AV) (m : Mem) : evK call n (c3_1 b3_0) [(1, y0), (5, y1), (8, y2), (9, y3)] m kn kx = G3_1 call n kn kx (fun x0 x1 x2 x3 m => evK call n b3_0 [(1, x0), (5, x1), (8, x2), (9, x3)] m kn kx) y0 y1 y2 y3 m := by kernel_rfl
def k3_1 (call : CL) (n : Nat) (kn : KN) (kx : KX) : KN := kn
def x3_1 (call : CL) (n : Nat) (kn : KN) (kx : KX) : KX := kx
def S3_1 (call : CL) (n : Nat) (kn : KN) (kx : KX) (y0 y1 y2 y3 : AV) (m : Mem) : Rho := G3_1 call n kn kx (S3_0 call n kn kx) y0 y1 y2 y3 m
def d3_1 (call : CL) (n : Nat) (kn : KN) (kx : KX) (y0 y1 y2 y3 : AV) (m : Mem) : Rho := evK call n b3_1 [(1, y0), (5, y1), (8, y2), (9, y3)] m (k3_1 call n kn kx) (x3_1 call n kn kx)
theorem l3_1 {call : CL} {n : Nat} {kn : KN} {kx : KX} : d3_1 call n kn kx = S3_1 call n kn kx := by
  funext y0 y1 y2 y3 m
  have h : d3_1 call n kn kx y0 y1 y2 y3 m = G3_1 call n kn kx (d3_0 call n kn kx) y0 y1 y2 y3 m := Eq.mp (by kernel_rfl) (g3_1 call n kn kx b3_0 y0 y1 y2 y3 m)
  rw [l3_0] at h; exact h
def G3_2 (call : CL) (n : Nat) (kn : KN) (kx : KX) (Q3_1 : Y4) (y0 y1 y2 y3 : AV) (m : Mem) : Rho :=
  vK (aIndexAddr m 1 y0 y2) m fun a0 m1 =>
  loadK none a0 m1 fun a2 m3 =>
  vK (aLen m3 1 a2) m3 fun a4 m5 =>
  binK .lss y3 a4 fun a6 =>
  condK a6
  (Q3_1 y0 y1 y2 y3 m5)
  (kx (.ext 2) [(1, y0), (5, y1), (8, y2), (9, y3), (52, a6)] m5)
theorem g3_2 (call : CL) (n : Nat) (kn : KN) (kx : KX) (b3_1 : C) (y0 y1 y2 y3 : AV) (m : Mem) : evK call n (c3_2 b3_1) [(1, y0), (5, y1), (8, y2), (9, y3)] m kn kx = G3_2 call n kn kx (fun x0 x1 x2 x3 m => evK call n b3_1 [(1, x0), (5, x1), (8, x2), (9, x3)] m kn kx) y0 y1 y2 y3 m := by kernel_rfl
def S3_2 (call : CL) (n : Nat) (kn : KN) (kx : KX) (y0 y1 y2 y3 : AV) (m : Mem) : Rho := G3_2 call n kn kx (S3_1 call n kn kx) y0 y1 y2 y3 m
def d3_2 (call : CL) (n : Nat) (kn : KN) (kx : KX) (y0 y1 y2 y3 : AV) (m : Mem) : Rho := evK call n b3_2 [(1, y0), (5, y1), (8, y2), (9, y3)] m kn kx
theorem l3_2 {call : CL} {n : Nat} : d3_2 call n = S3_2 call n := by
  funext kn kx y0 y1 y2 y3 m
  have h : d3_2 call n kn kx y0 y1 y2 y3 m = G3_2 call n kn kx (d3_1 call n kn kx) y0 y1 y2 y3 m := Eq.mp (by kernel_rfl) (g3_2 call n kn kx b3_1 y0 y1 y2 y3 m)
  rw [l3_1] at h; exact h
def G3_3 (call : CL) (n : Nat) (kn : KN) (kx : KX) (B3_2 : KN → KX → Y4) (Q3_4 : Y3) (y0 y1 y2 : AV) (m : Mem) : Rho :=
  loopV [1, 5, 8, 9] none (fun vs m kn kx => unc vs fun x0 vs => unc vs fun x1 vs => unc vs fun x2 vs => unc vs fun x3 vs => unz vs (B3_2 kn kx x0 x1 x2 x3 m)) (blkK 2 (fun e m => keepK e [1, 5, 8] fun vs => unc vs fun x0 vs => unc vs fun x1 vs => unc vs fun x2 vs => unz vs (Q3_4 x0 x1 x2 m)) (blkK 1 (fun e m => keepK e [1, 5, 8] fun vs => unc vs fun x0 vs => unc vs fun x1 vs => unc vs fun x2 vs => unz vs (Q3_4 x0 x1 x2 m)) kx)) n [y0, y1, y2, (.int .i64 0)] m
theorem g3_3 (call : CL) (n : Nat) (kn : KN) (kx : KX) (b3_2 : C) (b3_4 : C) (k3_4 : KN) (x3_4 : KX) (y0 y1 y2 : AV) (m : Mem) : evK call n (c3_3 b3_2) [(1, y0), (5, y1), (8, y2)] m (jn call n [1, 5, 8] b3_4 k3_4 x3_4) (blkK 1 (jn call n [1, 5, 8] b3_4 k3_4 x3_4) kx) = G3_3 call n kn kx (fun kn kx x0 x1 x2 x3 m => evK call n b3_2 [(1, x0), (5, x1), (8, x2), (9, x3)] m kn kx) (fun x0 x1 x2 m => evK call n b3_4 [(1, x0), (5, x1), (8, x2)] m k3_4 x3_4) y0 y1 y2 m := by kernel_rfl
def k3_3 (call : CL) (n : Nat) (kn : KN) (kx : KX) : KN := (jn call n [1, 5, 8] b3_4 (k3_4 call n kn kx) (x3_4 call n kn kx))
def x3_3 (call : CL) (n : Nat) (kn : KN) (kx : KX) : KX := (blkK 1 (jn call n [1, 5, 8] b3_4 (k3_4 call n kn kx) (x3_4 call n kn kx)) kx)
def S3_3 (call : CL) (n : Nat) (kn : KN) (kx : KX) (y0 y1 y2 : AV) (m : Mem) : Rho := G3_3 call n kn kx (S3_2 call n) (S3_4 call n kn kx) y0 y1 y2 m
def d3_3 (call : CL) (n : Nat) (kn : KN) (kx : KX) (y0 y1 y2 : AV) (m : Mem) : Rho := evK call n b3_3 [(1, y0), (5, y1), (8, y2)] m (k3_3 call n kn kx) (x3_3 call n kn kx)
theorem l3_3 {call : CL} {n : Nat} {kn : KN} {kx : KX} : d3_3 call n kn kx = S3_3 call n kn kx := by
  funext y0 y1 y2 m
  have h : d3_3 call n kn kx y0 y1 y2 m = G3_3 call n kn kx (d3_2 call n) (d3_4 call n kn kx) y0 y1 y2 m := Eq.mp (by kernel_rfl) (g3_3 call n kn kx b3_2 b3_4 (k3_4 call n kn kx) (x3_4 call n kn kx) y0 y1 y2 m)
  rw [l3_2, l3_4] at h; exact h
def G3_5 (call : CL) (n : Nat) (kn : KN) (kx : KX) (Q3_3 : Y3) (y0 y1 y2 : AV) (m : Mem) : Rho :=
  vK (aIndexAddr m 1 y0 y2) m fun a0 m1 =>
  loadK none a0 m1 fun a2 m3 =>
  vK (aLen m3 1 a2) m3 fun a4 m5 =>
  binK .gtr a4 (.int .i64 6) fun a6 =>
  condK a6
  (callK call (.func 5 [] []) false [] m5 fun a7 m8 =>
  kx .ret [(4, a7)] m8)
  (Q3_3 y0 y1 y2 m5)
theorem g3_5 (call : CL) (n : Nat) (kn : KN) (kx : KX) (b3_3 : C) (b3_4 : C) (y0 y1 y2 : AV) (m : Mem) : evK call n (c3_5 b3_3 b3_4) [(1, y0), (5, y1), (8, y2)] m kn kx = G3_5 call n kn kx (fun x0 x1 x2 m => evK call n b3_3 [(1, x0), (5, x1), (8, x2)] m (jn call n [1, 5, 8] b3_4 kn kx) (blkK 1 (jn call n [1, 5, 8] b3_4 kn kx) kx)) y0 y1 y2 m := by kernel_rfl
def k3_5 (call : CL) (n : Nat) (kn : KN) (kx : KX) : KN := kn
def x3_5 (call : CL) (n : Nat) (kn : KN) (kx : KX) : KX := kx
def S3_5 (call : CL) (n : Nat) (kn : KN) (kx : KX) (y0 y1 y2 : AV) (m : Mem) : Rho := G3_5 call n kn kx (S3_3 call n kn kx) y0 y1 y2 m
def d3_5 (call : CL) (n : Nat) (kn : KN) (kx : KX) (y0 y1 y2 : AV) (m : Mem) : Rho := evK call n b3_5 [(1, y0), (5, y1), (8, y2)] m (k3_5 call n kn kx) (x3_5 call n kn kx)
theorem l3_5 {call : CL} {n : Nat} {kn : KN} {kx : KX} : d3_5 call n kn kx = S3_5 call n kn kx := by
  funext y0 y1 y2 m
  have h : d3_5 call n kn kx y0 y1 y2 m = G3_5 call n kn kx (d3_3 call n kn kx) y0 y1 y2 m := Eq.mp (by kernel_rfl) (g3_5 call n kn kx b3_3 b3_4 y0 y1 y2 m)
  rw [l3_3] at h; exact h
def G3_6 (call : CL) (n : Nat) (kn : KN) (kx : KX) (Q3_5 : Y3) (y0 y1 y2 : AV) (m : Mem) : Rho :=
  vK (aLen m 1 y0) m fun a0 m1 =>
  binK .lss y2 a0 fun a2 =>
  condK a2
  (Q3_5 y0 y1 y2 m1)
  (kx (.ext 0) [(1, y0), (5, y1), (8, y2), (36, a2)] m1)
theorem g3_6 (call : CL) (n : Nat) (kn : KN) (kx : KX) (b3_5 : C) (y0 y1 y2 : AV) (m : Mem) : evK call n (c3_6 b3_5) [(1, y0), (5, y1), (8, y2)] m kn kx = G3_6 call n kn kx (fun x0 x1 x2 m => evK call n b3_5 [(1, x0), (5, x1), (8, x2)] m kn kx) y0 y1 y2 m := by kernel_rfl
def S3_6 (call : CL) (n : Nat) (kn : KN) (kx : KX) (y0 y1 y2 : AV) (m : Mem) : Rho := G3_6 call n kn kx (S3_5 call n kn kx) y0 y1 y2 m
def d3_6 (call : CL) (n : Nat) (kn : KN) (kx : KX) (y0 y1 y2 : AV) (m : Mem) : Rho := evK call n b3_6 [(1, y0), (5, y1), (8, y2)] m kn kx
theorem l3_6 {call : CL} {n : Nat} : d3_6 call n = S3_6 call n := by
  funext kn kx y0 y1 y2 m
  have h : d3_6 call n kn kx y0 y1 y2 m = G3_6 call n kn kx (d3_5 call n kn kx) y0 y1 y2 m := Eq.mp (by kernel_rfl) (g3_6 call n kn kx b3_5 y0 y1 y2 m)
  rw [l3_5] at h; exact h
def G3_28 (call : CL) (n : Nat) (m0 : Mem) (B3_6 : KN → KX → Y3) (Q3_27 : Y2) (y0 y1 : AV) (m : Mem) : Rho :=
  loopV [1, 5, 8] none (fun vs m kn kx => unc vs fun x0 vs => unc vs fun x1 vs => unc vs fun x2 vs => unz vs (B3_6 kn kx x0 x1 x2 m)) (blkK 0 (fun e m => keepK e [1, 5] fun vs => unc vs fun x0 vs => unc vs fun x1 vs => unz vs (Q3_27 x0 x1 m)) (endK f3 m0)) n [y0, y1, (.int .i64 0)] m
theorem g3_28 (call : CL) (n : Nat) (m0 : Mem) (b3_6 : C) (b3_27 : C) (y0 y1 : AV) (m : Mem) : evK call n (c3_28 b3_6 b3_27) [(1, y0), (5, y1)] m (fun e m => endK f3 m0 .nrm e m) (endK f3 m0) = G3_28 call n m0 (fun kn kx x0 x1 x2 m => evK call n b3_6 [(1, x0), (5, x1), (8, x2)] m kn kx) (fun x0 x1 m => evK call n b3_27 [(1, x0), (5, x1)] m (fun e m => endK f3 m0 .nrm e m) (endK f3 m0)) y0 y1 m := by kernel_rfl
def k3_28 (call : CL) (n : Nat) (m0 : Mem) : KN := (fun e m => endK f3 m0 .nrm e m)
def x3_28 (call : CL) (n : Nat) (m0 : Mem) : KX := (endK f3 m0)
def S3_28 (call : CL) (n : Nat) (m0 : Mem) (y0 y1 : AV) (m : Mem) : Rho := G3_28 call n m0 (S3_6 call n) (S3_27 call n m0) y0 y1 m
def d3_28 (call : CL) (n : Nat) (m0 : Mem) (y0 y1 : AV) (m : Mem) : Rho := evK call n b3_28 [(1, y0), (5, y1)] m (k3_28 call n m0) (x3_28 call n m0)
theorem l3_28 {call : CL} {n : Nat} {m0 : Mem} : d3_28 call n m0 = S3_28 call n m0 := by
  funext y0 y1 m
  have h : d3_28 call n m0 y0 y1 m = G3_28 call n m0 (d3_6 call n) (d3_27 call n m0) y0 y1 m := Eq.mp (by kernel_rfl) (g3_28 call n m0 b3_6 b3_27 y0 y1 m)
  rw [l3_6, l3_27] at h; exact h
def G3 (call : CL) (n : Nat) (m0 : Mem) (Q3_28 : Y2) (y0 y1 : AV) (m : Mem) : Rho :=
  callK call (.func 4 [] []) false [y0] m fun a0 m1 =>
  extractK a0 0 fun a2 =>
  extractK a0 1 fun a3 =>
  extractK a0 2 fun a4 =>
  unK .not a4 fun a5 =>
  gK a5 false (fun k => k y1 m1) m1 fun a6 m7 =>
  gK a5 false (fun k => vK (aLen m7 1 a6) m7 fun a8 m9 =>
  k a8 m9) m7 fun a10 m11 =>
  gK a5 false (fun k => binK .gtr a10 (.int .i64 8) fun a12 =>
  k a12 m11) m11 fun a13 m14 =>
  pickK a5 (some (.bool true)) (some a13) fun a15 =>
  condK a15
  (callK call (.func 5 [] []) false [] m14 fun a16 m17 =>
  retK false false m0 [a16] m17)
  (Q3_28 y1 a2 m14)
theorem g3 (call : CL) (n : Nat) (m0 : Mem) (b3_28 : C) (y0 y1 : AV) (m : Mem) : evK call n (c3 b3_28) [(0, y0), (1, y1)] m (fun e m => endK f3 m0 .nrm e m) (endK f3 m0) = G3 call n m0 (fun x0 x1 m => evK call n b3_28 [(1, x0), (5, x1)] m (fun e m => endK f3 m0 .nrm e m) (endK f3 m0)) y0 y1 m := by kernel_rfl
def S3 (call : CL) (n : Nat) (m0 : Mem) (y0 y1 : AV) : Rho := G3 call n m0 (S3_28 call n m0) y0 y1 { m0 with bad := none }
theorem s3 (call : CL) (n : Nat) (m0 : Mem) (y0 y1 : AV) : bodyK call n f3 [y0, y1] m0 = S3 call n m0 y0 y1 :=
  have h : bodyK call n f3 [y0, y1] m0 = G3 call n m0 (d3_28 call n m0) y0 y1 { m0 with bad := none } := Eq.mp (by kernel_rfl) (g3 call n m0 b3_28 y0 y1 { m0 with bad := none })
  by rw [l3_28] at h; exact h
def F3 : SF := fun call n vs m0 => unc vs fun x0 vs => unc vs fun x1 vs => unz vs (S3 call n m0 x0 x1)
theorem F3_ok {orc : List AV → Mem → Option (AV × Mem)} : SOk 3 { f3 with orc := orc } F3 := by
  intro call n vs m0 ho r h0
  simp only [F3] at h0
  obtain ⟨y0, v0, rfl, h1⟩ := unc_some h0
  obtain ⟨y1, v1, rfl, h2⟩ := unc_some h1
  obtain ⟨rfl, hz⟩ := unz_some h2
  exact bodyK_le ho rfl r (Eq.mp (by kernel_rfl) ((s3 call n m0 y0 y1).trans hz))

-- resolvent/resolventlaw16.makes
def G4_14 (call : CL) (n : Nat) (m0 : Mem) (y0 y1 : AV) (m : Mem) : Rho :=
  retK false false m0 [y0, y1, (.bool true)] m
theorem g4_14 (call : CL) (n : Nat) (m0 : Mem) (y0 y1 : AV) (m : Mem) : evK call n b4_14 [(5, y0), (6, y1)] m (fun e m => endK f4 m0 .nrm e m) (endK f4 m0) = G4_14 call n m0 y0 y1 m := by kernel_rfl
def k4_14 (call : CL) (n : Nat) (m0 : Mem) : KN := (fun e m => endK f4 m0 .nrm e m)
def x4_14 (call : CL) (n : Nat) (m0 : Mem) : KX := (endK f4 m0)
def S4_14 (call : CL) (n : Nat) (m0 : Mem) (y0 y1 : AV) (m : Mem) : Rho := G4_14 call n m0 y0 y1 m
def d4_14 (call : CL) (n : Nat) (m0 : Mem) (y0 y1 : AV) (m : Mem) : Rho := evK call n b4_14 [(5, y0), (6, y1)] m (k4_14 call n m0) (x4_14 call n m0)
theorem l4_14 {call : CL} {n : Nat} {m0 : Mem} : d4_14 call n m0 = S4_14 call n m0 := by
  funext y0 y1 m
  have h : d4_14 call n m0 y0 y1 m = G4_14 call n m0 y0 y1 m := Eq.mp (by kernel_rfl) (g4_14 call n m0 y0 y1 m)
  exact h
def G4_11 (call : CL) (n : Nat) (kn : KN) (kx : KX) (y0 y1 y2 y3 : AV) (m : Mem) : Rho :=
  binK .add y3 (.int .i64 1) fun a0 =>
  kn [(0, y0), (5, y1), (6, y2), (7, a0)] m
theorem g4_11 (call : CL) (n : Nat) (kn : KN) (kx : KX) (y0 y1 y2 y3 : AV) (m : Mem) : evK call n b4_11 [(0, y0), (5, y1), (6, y2), (7, y3)] m kn kx = G4_11 call n kn kx y0 y1 y2 y3 m := by kernel_rfl
def k4_11 (call : CL) (n : Nat) (kn : KN) (kx : KX) : KN := kn
def x4_11 (call : CL) (n : Nat) (kn : KN) (kx : KX) : KX := kx
def S4_11 (call : CL) (n : Nat) (kn : KN) (kx : KX) (y0 y1 y2 y3 : AV) (m : Mem) : Rho := G4_11 call n kn kx y0 y1 y2 y3 m
def d4_11 (call : CL) (n : Nat) (kn : KN) (kx : KX) (y0 y1 y2 y3 : AV) (m : Mem) : Rho := evK call n b4_11 [(0, y0), (5, y1), (6, y2), (7, y3)] m (k4_11 call n kn kx) (x4_11 call n kn kx)
theorem l4_11 {call : CL} {n : Nat} {kn : KN} {kx : KX} : d4_11 call n kn kx = S4_11 call n kn kx := by
  funext y0 y1 y2 y3 m
  have h : d4_11 call n kn kx y0 y1 y2 y3 m = G4_11 call n kn kx y0 y1 y2 y3 m := Eq.mp (by kernel_rfl) (g4_11 call n kn kx y0 y1 y2 y3 m)
  exact h
def G4_6 (call : CL) (n : Nat) (kn : KN) (kx : KX) (Q4_11 : Y4) (y0 y1 y2 y3 y4 y5 : AV) (m : Mem) : Rho :=
  loadK (some 2) y4 m fun a0 m1 =>
  buildSliceK 2 [(.list .full 0 []), (.bool false)] 1 false [(0 * 2, 2, AV.untag a0)] m1 fun a2 m3 =>
  appendK 2 32 0 y1 a2 m3 fun a4 m5 =>
  buildSliceK 1 [(.int .u64 0)] 1 false [(0 * 1, 1, AV.untag y5)] m5 fun a6 m7 =>
  appendK 1 8 0 y2 a6 m7 fun a8 m9 =>
  Q4_11 y0 a4 a8 y3 m9
theorem g4_6 (call : CL) (n : Nat) (kn : KN) (kx : KX) (b4_11 : C) (k4_11 : KN) (x4_11 : KX) (y0 y1 y2 y3 y4 y5 : AV) (m : Mem) : evK call n b4_6 [(0, y0), (5, y1), (6, y2), (7, y3), (12, y4), (13, y5)] m (jn call n [0, 5, 6, 7] b4_11 k4_11 x4_11) (blkK 1 (jn call n [0, 5, 6, 7] b4_11 k4_11 x4_11) kx) = G4_6 call n kn kx (fun x0 x1 x2 x3 m => evK call n b4_11 [(0, x0), (5, x1), (6, x2), (7, x3)] m k4_11 x4_11) y0 y1 y2 y3 y4 y5 m := by kernel_rfl
def k4_6 (call : CL) (n : Nat) (kn : KN) (kx : KX) : KN := (jn call n [0, 5, 6, 7] b4_11 (k4_11 call n kn kx) (x4_11 call n kn kx))
def x4_6 (call : CL) (n : Nat) (kn : KN) (kx : KX) : KX := (blkK 1 (jn call n [0, 5, 6, 7] b4_11 (k4_11 call n kn kx) (x4_11 call n kn kx)) kx)
def S4_6 (call : CL) (n : Nat) (kn : KN) (kx : KX) (y0 y1 y2 y3 y4 y5 : AV) (m : Mem) : Rho := G4_6 call n kn kx (S4_11 call n kn kx) y0 y1 y2 y3 y4 y5 m
def d4_6 (call : CL) (n : Nat) (kn : KN) (kx : KX) (y0 y1 y2 y3 y4 y5 : AV) (m : Mem) : Rho := evK call n b4_6 [(0, y0), (5, y1), (6, y2), (7, y3), (12, y4), (13, y5)] m (k4_6 call n kn kx) (x4_6 call n kn kx)
theorem l4_6 {call : CL} {n : Nat} {kn : KN} {kx : KX} : d4_6 call n kn kx = S4_6 call n kn kx := by
  funext y0 y1 y2 y3 y4 y5 m
  have h : d4_6 call n kn kx y0 y1 y2 y3 y4 y5 m = G4_6 call n kn kx (d4_11 call n kn kx) y0 y1 y2 y3 y4 y5 m := Eq.mp (by kernel_rfl) (g4_6 call n kn kx b4_11 (k4_11 call n kn kx) (x4_11 call n kn kx) y0 y1 y2 y3 y4 y5 m)
  rw [l4_11] at h; exact h
def G4_3 (call : CL) (n : Nat) (kn : KN) (kx : KX) (y0 y1 y2 y3 y4 y5 y6 y7 : AV) (m : Mem) : Rho :=
  binK .add y7 (.int .i64 1) fun a0 =>
  kn [(0, y0), (5, y1), (6, y2), (7, y3), (8, y4), (12, y5), (13, y6), (14, a0)] m
theorem g4_3 (call : CL) (n : Nat) (kn : KN) (kx : KX) (y0 y1 y2 y3 y4 y5 y6 y7 : AV) (m : Mem) : evK call n b4_3 [(0, y0), (5, y1), (6, y2), (7, y3), (8, y4), (12, y5), (13, y6), (14, y7)] m kn kx = G4_3 call n kn kx y0 y1 y2 y3 y4 y5 y6 y7 m := by kernel_rfl
def k4_3 (call : CL) (n : Nat) (kn : KN) (kx : KX) : KN := kn
def x4_3 (call : CL) (n : Nat) (kn : KN) (kx : KX) : KX := kx
def S4_3 (call : CL) (n : Nat) (kn : KN) (kx : KX) (y0 y1 y2 y3 y4 y5 y6 y7 : AV) (m : Mem) : Rho := G4_3 call n kn kx y0 y1 y2 y3 y4 y5 y6 y7 m
def d4_3 (call : CL) (n : Nat) (kn : KN) (kx : KX) (y0 y1 y2 y3 y4 y5 y6 y7 : AV) (m : Mem) : Rho := evK call n b4_3 [(0, y0), (5, y1), (6, y2), (7, y3), (8, y4), (12, y5), (13, y6), (14, y7)] m (k4_3 call n kn kx) (x4_3 call n kn kx)
theorem l4_3 {call : CL} {n : Nat} {kn : KN} {kx : KX} : d4_3 call n kn kx = S4_3 call n kn kx := by
  funext y0 y1 y2 y3 y4 y5 y6 y7 m
  have h : d4_3 call n kn kx y0 y1 y2 y3 y4 y5 y6 y7 m = G4_3 call n kn kx y0 y1 y2 y3 y4 y5 y6 y7 m := Eq.mp (by kernel_rfl) (g4_3 call n kn kx y0 y1 y2 y3 y4 y5 y6 y7 m)
  exact h
def G4_4 (call : CL) (n : Nat) (kn : KN) (kx : KX) (Q4_3 : Y8) (y0 y1 y2 y3 y4 y5 y6 y7 : AV) (m : Mem) : Rho :=
  loadK (some 5) y4 m fun a0 m1 =>
  callK call (.func 20 [] []) false [a0, y2, y7] m1 fun a2 m3 =>
  condK a2
  (binK .shl (.int .u64 1) y7 fun a4 =>
  binK .or y6 a4 fun a5 =>
  Q4_3 y0 y1 y2 y3 y4 y5 a5 y7 m3)
  (Q4_3 y0 y1 y2 y3 y4 y5 y6 y7 m3)
theorem g4_4 (call : CL) (n : Nat) (kn : KN) (kx : KX) (b4_3 : C) (y0 y1 y2 y3 y4 y5 y6 y7 : AV) (m : Mem) : evK call n (c4_4 b4_3) [(0, y0), (5, y1), (6, y2), (7, y3), (8, y4), (12, y5), (13, y6), (14, y7)] m kn kx = G4_4 call n kn kx (fun x0 x1 x2 x3 x4 x5 x6 x7 m => evK call n b4_3 [(0, x0), (5, x1), (6, x2), (7, x3), (8, x4), (12, x5), (13, x6), (14, x7)] m kn kx) y0 y1 y2 y3 y4 y5 y6 y7 m := by kernel_rfl
def k4_4 (call : CL) (n : Nat) (kn : KN) (kx : KX) : KN := kn
def x4_4 (call : CL) (n : Nat) (kn : KN) (kx : KX) : KX := kx
def S4_4 (call : CL) (n : Nat) (kn : KN) (kx : KX) (y0 y1 y2 y3 y4 y5 y6 y7 : AV) (m : Mem) : Rho := G4_4 call n kn kx (S4_3 call n kn kx) y0 y1 y2 y3 y4 y5 y6 y7 m
def d4_4 (call : CL) (n : Nat) (kn : KN) (kx : KX) (y0 y1 y2 y3 y4 y5 y6 y7 : AV) (m : Mem) : Rho := evK call n b4_4 [(0, y0), (5, y1), (6, y2), (7, y3), (8, y4), (12, y5), (13, y6), (14, y7)] m (k4_4 call n kn kx) (x4_4 call n kn kx)
theorem l4_4 {call : CL} {n : Nat} {kn : KN} {kx : KX} : d4_4 call n kn kx = S4_4 call n kn kx := by
  funext y0 y1 y2 y3 y4 y5 y6 y7 m
  have h : d4_4 call n kn kx y0 y1 y2 y3 y4 y5 y6 y7 m = G4_4 call n kn kx (d4_3 call n kn kx) y0 y1 y2 y3 y4 y5 y6 y7 m := Eq.mp (by kernel_rfl) (g4_4 call n kn kx b4_3 y0 y1 y2 y3 y4 y5 y6 y7 m)
  rw [l4_3] at h; exact h
def G4_5 (call : CL) (n : Nat) (kn : KN) (kx : KX) (Q4_4 : Y8) (y0 y1 y2 y3 y4 y5 y6 y7 : AV) (m : Mem) : Rho :=
  binK .lss y7 (.int .i64 64) fun a0 =>
  condK a0
  (Q4_4 y0 y1 y2 y3 y4 y5 y6 y7 m)
  (kx (.ext 5) [(0, y0), (5, y1), (6, y2), (7, y3), (8, y4), (12, y5), (13, y6), (14, y7), (112, a0)] m)
theorem g4_5 (call : CL) (n : Nat) (kn : KN) (kx : KX) (b4_4 : C) (y0 y1 y2 y3 y4 y5 y6 y7 : AV) (m : Mem) : evK call n (c4_5 b4_4) [(0, y0), (5, y1), (6, y2), (7, y3), (8, y4), (12, y5), (13, y6), (14, y7)] m kn kx = G4_5 call n kn kx (fun x0 x1 x2 x3 x4 x5 x6 x7 m => evK call n b4_4 [(0, x0), (5, x1), (6, x2), (7, x3), (8, x4), (12, x5), (13, x6), (14, x7)] m kn kx) y0 y1 y2 y3 y4 y5 y6 y7 m := by kernel_rfl
def S4_5 (call : CL) (n : Nat) (kn : KN) (kx : KX) (y0 y1 y2 y3 y4 y5 y6 y7 : AV) (m : Mem) : Rho := G4_5 call n kn kx (S4_4 call n kn kx) y0 y1 y2 y3 y4 y5 y6 y7 m
def d4_5 (call : CL) (n : Nat) (kn : KN) (kx : KX) (y0 y1 y2 y3 y4 y5 y6 y7 : AV) (m : Mem) : Rho := evK call n b4_5 [(0, y0), (5, y1), (6, y2), (7, y3), (8, y4), (12, y5), (13, y6), (14, y7)] m kn kx
theorem l4_5 {call : CL} {n : Nat} : d4_5 call n = S4_5 call n := by
  funext kn kx y0 y1 y2 y3 y4 y5 y6 y7 m
  have h : d4_5 call n kn kx y0 y1 y2 y3 y4 y5 y6 y7 m = G4_5 call n kn kx (d4_4 call n kn kx) y0 y1 y2 y3 y4 y5 y6 y7 m := Eq.mp (by kernel_rfl) (g4_5 call n kn kx b4_4 y0 y1 y2 y3 y4 y5 y6 y7 m)
  rw [l4_4] at h; exact h
def G4_7 (call : CL) (n : Nat) (kn : KN) (kx : KX) (B4_5 : KN → KX → Y8) (Q4_6 : Y6) (Q4_11 : Y4) (y0 y1 y2 y3 y4 y5 : AV) (m : Mem) : Rho :=
  loopV [0, 5, 6, 7, 8, 12, 13, 14] none (fun vs m kn kx => unc vs fun x0 vs => unc vs fun x1 vs => unc vs fun x2 vs => unc vs fun x3 vs => unc vs fun x4 vs => unc vs fun x5 vs => unc vs fun x6 vs => unc vs fun x7 vs => unz vs (B4_5 kn kx x0 x1 x2 x3 x4 x5 x6 x7 m)) (blkK 5 (fun e m => keepK e [0, 5, 6, 7, 12, 13] fun vs => unc vs fun x0 vs => unc vs fun x1 vs => unc vs fun x2 vs => unc vs fun x3 vs => unc vs fun x4 vs => unc vs fun x5 vs => unz vs (Q4_6 x0 x1 x2 x3 x4 x5 m)) (blkK 1 (fun e m => keepK e [0, 5, 6, 7] fun vs => unc vs fun x0 vs => unc vs fun x1 vs => unc vs fun x2 vs => unc vs fun x3 vs => unz vs (Q4_11 x0 x1 x2 x3 m)) kx)) n [y0, y1, y2, y3, y4, y5, (.int .u64 0), (.int .i64 0)] m
theorem g4_7 (call : CL) (n : Nat) (kn : KN) (kx : KX) (b4_5 : C) (b4_6 : C) (b4_11 : C) (k4_11 : KN) (x4_11 : KX) (y0 y1 y2 y3 y4 y5 : AV) (m : Mem) : evK call n (c4_7 b4_5 b4_6) [(0, y0), (5, y1), (6, y2), (7, y3), (8, y4), (12, y5)] m (jn call n [0, 5, 6, 7] b4_11 k4_11 x4_11) (blkK 1 (jn call n [0, 5, 6, 7] b4_11 k4_11 x4_11) kx) = G4_7 call n kn kx (fun kn kx x0 x1 x2 x3 x4 x5 x6 x7 m => evK call n b4_5 [(0, x0), (5, x1), (6, x2), (7, x3), (8, x4), (12, x5), (13, x6), (14, x7)] m kn kx) (fun x0 x1 x2 x3 x4 x5 m => evK call n b4_6 [(0, x0), (5, x1), (6, x2), (7, x3), (12, x4), (13, x5)] m (jn call n [0, 5, 6, 7] b4_11 k4_11 x4_11) (blkK 1 (jn call n [0, 5, 6, 7] b4_11 k4_11 x4_11) kx)) (fun x0 x1 x2 x3 m => evK call n b4_11 [(0, x0), (5, x1), (6, x2), (7, x3)] m k4_11 x4_11) y0 y1 y2 y3 y4 y5 m := by kernel_rfl
def k4_7 (call : CL) (n : Nat) (kn : KN) (kx : KX) : KN := (jn call n [0, 5, 6, 7] b4_11 (k4_11 call n kn kx) (x4_11 call n kn kx))
def x4_7 (call : CL) (n : Nat) (kn : KN) (kx : KX) : KX := (blkK 1 (jn call n [0, 5, 6, 7] b4_11 (k4_11 call n kn kx) (x4_11 call n kn kx)) kx)
def S4_7 (call : CL) (n : Nat) (kn : KN) (kx : KX) (y0 y1 y2 y3 y4 y5 : AV) (m : Mem) : Rho := G4_7 call n kn kx (S4_5 call n) (S4_6 call n kn kx) (S4_11 call n kn kx) y0 y1 y2 y3 y4 y5 m
def d4_7 (call : CL) (n : Nat) (kn : KN) (kx : KX) (y0 y1 y2 y3 y4 y5 : AV) (m : Mem) : Rho := evK call n b4_7 [(0, y0), (5, y1), (6, y2), (7, y3), (8, y4), (12, y5)] m (k4_7 call n kn kx) (x4_7 call n kn kx)
theorem l4_7 {call : CL} {n : Nat} {kn : KN} {kx : KX} : d4_7 call n kn kx = S4_7 call n kn kx := by
  funext y0 y1 y2 y3 y4 y5 m
  have h : d4_7 call n kn kx y0 y1 y2 y3 y4 y5 m = G4_7 call n kn kx (d4_5 call n) (d4_6 call n kn kx) (d4_11 call n kn kx) y0 y1 y2 y3 y4 y5 m := Eq.mp (by kernel_rfl) (g4_7 call n kn kx b4_5 b4_6 b4_11 (k4_11 call n kn kx) (x4_11 call n kn kx) y0 y1 y2 y3 y4 y5 m)
  rw [l4_5, l4_6, l4_11] at h; exact h
def G4_8 (call : CL) (n : Nat) (kn : KN) (kx : KX) (Q4_7 : Y6) (y0 y1 y2 y3 y4 y5 y6 : AV) (m : Mem) : Rho :=
  vK (aFieldAddr 1 1 y4) m fun a0 m1 =>
  loadK none a0 m1 fun a2 m3 =>
  binK .gtr a2 (.int .i64 0) fun a4 =>
  callK call (.func 13 [] []) false [a4] m3 fun a5 m6 =>
  newK [(.list .full 0 []), (.bool false)] m6 fun a7 m8 =>
  storeK 2 a7 a5 m8 fun a9 m10 =>
  vK (aFieldAddr 0 1 y4) m10 fun a11 m12 =>
  loadK none a11 m12 fun a13 m14 =>
  binK .eql a13 (.int .i64 0) fun a15 =>
  condK a15
  (vK (aFieldAddr 1 1 y4) m14 fun a16 m17 =>
  loadK none a16 m17 fun a18 m19 =>
  callK call (.func 14 [] []) false [a18] m19 fun a20 m21 =>
  storeK 2 a7 a20 m21 fun a22 m23 =>
  Q4_7 y0 y1 y2 y3 y4 a7 m23)
  (binK .eql a13 (.int .i64 1) fun a24 =>
  condK a24
  (vK (aFieldAddr 1 1 y4) m14 fun a25 m26 =>
  loadK none a25 m26 fun a27 m28 =>
  vK (aFieldAddr 4 1 y4) m28 fun a29 m30 =>
  loadK none a29 m30 fun a31 m32 =>
  callK call (.func 15 [] []) false [a27, a31] m32 fun a33 m34 =>
  storeK 2 a7 a33 m34 fun a35 m36 =>
  Q4_7 y0 y1 y2 y3 y4 a7 m36)
  (binK .eql a13 (.int .i64 2) fun a37 =>
  condK a37
  (loadK (some 2) y5 m14 fun a38 m39 =>
  loadK (some 2) y6 m39 fun a40 m41 =>
  callK call (.func 16 [] []) false [a38, a40] m41 fun a42 m43 =>
  storeK 2 a7 a42 m43 fun a44 m45 =>
  Q4_7 y0 y1 y2 y3 y4 a7 m45)
  (binK .eql a13 (.int .i64 3) fun a46 =>
  condK a46
  (loadK (some 2) y5 m14 fun a47 m48 =>
  loadK (some 2) y6 m48 fun a49 m50 =>
  callK call (.func 17 [] []) false [a47, a49] m50 fun a51 m52 =>
  storeK 2 a7 a51 m52 fun a53 m54 =>
  Q4_7 y0 y1 y2 y3 y4 a7 m54)
  (binK .eql a13 (.int .i64 4) fun a55 =>
  condK a55
  (loadK (some 2) y5 m14 fun a56 m57 =>
  vK (aFieldAddr 1 1 y4) m57 fun a58 m59 =>
  loadK none a58 m59 fun a60 m61 =>
  callK call (.func 18 [] []) false [a56, a60] m61 fun a62 m63 =>
  storeK 2 a7 a62 m63 fun a64 m65 =>
  Q4_7 y0 y1 y2 y3 y4 a7 m65)
  (binK .eql a13 (.int .i64 5) fun a66 =>
  condK a66
  (loadK (some 2) y5 m14 fun a67 m68 =>
  vK (aFieldAddr 4 1 y4) m68 fun a69 m70 =>
  loadK none a69 m70 fun a71 m72 =>
  callK call (.func 19 [] []) false [a67, a71] m72 fun a73 m74 =>
  storeK 2 a7 a73 m74 fun a75 m76 =>
  Q4_7 y0 y1 y2 y3 y4 a7 m76)
  (Q4_7 y0 y1 y2 y3 y4 a7 m14))))))
theorem g4_8 (call : CL) (n : Nat) (kn : KN) (kx : KX) (b4_7 : C) (b4_11 : C) (k4_11 : KN) (x4_11 : KX) (y0 y1 y2 y3 y4 y5 y6 : AV) (m : Mem) : evK call n (c4_8 b4_7) [(0, y0), (5, y1), (6, y2), (7, y3), (8, y4), (10, y5), (11, y6)] m (jn call n [0, 5, 6, 7] b4_11 k4_11 x4_11) (blkK 1 (jn call n [0, 5, 6, 7] b4_11 k4_11 x4_11) kx) = G4_8 call n kn kx (fun x0 x1 x2 x3 x4 x5 m => evK call n b4_7 [(0, x0), (5, x1), (6, x2), (7, x3), (8, x4), (12, x5)] m (jn call n [0, 5, 6, 7] b4_11 k4_11 x4_11) (blkK 1 (jn call n [0, 5, 6, 7] b4_11 k4_11 x4_11) kx)) y0 y1 y2 y3 y4 y5 y6 m := by kernel_rfl
def k4_8 (call : CL) (n : Nat) (kn : KN) (kx : KX) : KN := (jn call n [0, 5, 6, 7] b4_11 (k4_11 call n kn kx) (x4_11 call n kn kx))
def x4_8 (call : CL) (n : Nat) (kn : KN) (kx : KX) : KX := (blkK 1 (jn call n [0, 5, 6, 7] b4_11 (k4_11 call n kn kx) (x4_11 call n kn kx)) kx)
def S4_8 (call : CL) (n : Nat) (kn : KN) (kx : KX) (y0 y1 y2 y3 y4 y5 y6 : AV) (m : Mem) : Rho := G4_8 call n kn kx (S4_7 call n kn kx) y0 y1 y2 y3 y4 y5 y6 m
def d4_8 (call : CL) (n : Nat) (kn : KN) (kx : KX) (y0 y1 y2 y3 y4 y5 y6 : AV) (m : Mem) : Rho := evK call n b4_8 [(0, y0), (5, y1), (6, y2), (7, y3), (8, y4), (10, y5), (11, y6)] m (k4_8 call n kn kx) (x4_8 call n kn kx)
theorem l4_8 {call : CL} {n : Nat} {kn : KN} {kx : KX} : d4_8 call n kn kx = S4_8 call n kn kx := by
  funext y0 y1 y2 y3 y4 y5 y6 m
  have h : d4_8 call n kn kx y0 y1 y2 y3 y4 y5 y6 m = G4_8 call n kn kx (d4_7 call n kn kx) y0 y1 y2 y3 y4 y5 y6 m := Eq.mp (by kernel_rfl) (g4_8 call n kn kx b4_7 b4_11 (k4_11 call n kn kx) (x4_11 call n kn kx) y0 y1 y2 y3 y4 y5 y6 m)
  rw [l4_7] at h; exact h
def G4_9 (call : CL) (n : Nat) (kn : KN) (kx : KX) (Q4_8 : Y7) (y0 y1 y2 y3 y4 : AV) (m : Mem) : Rho :=
  buildK [(.list .full 0 []), (.bool false)] [] fun a0 =>
  buildK [(.list .full 0 []), (.bool false)] [] fun a1 =>
  newK [(.list .full 0 []), (.bool false)] m fun a2 m3 =>
  newK [(.list .full 0 []), (.bool false)] m3 fun a4 m5 =>
  storeK 2 a2 a0 m5 fun a6 m7 =>
  storeK 2 a4 a1 m7 fun a8 m9 =>
  vK (aLen m9 1 y1) m9 fun a10 m11 =>
  binK .gtr a10 (.int .i64 0) fun a12 =>
  condK a12
  (vK (aFieldAddr 2 1 y4) m11 fun a13 m14 =>
  loadK none a13 m14 fun a15 m16 =>
  vK (aLen m16 1 y1) m16 fun a17 m18 =>
  callK call (.func 12 [] []) false [a15, a17] m18 fun a19 m20 =>
  vK (aIndexAddr m20 2 y1 a19) m20 fun a21 m22 =>
  loadK (some 2) a21 m22 fun a23 m24 =>
  storeK 2 a2 a23 m24 fun a25 m26 =>
  vK (aFieldAddr 3 1 y4) m26 fun a27 m28 =>
  loadK none a27 m28 fun a29 m30 =>
  vK (aLen m30 1 y1) m30 fun a31 m32 =>
  callK call (.func 12 [] []) false [a29, a31] m32 fun a33 m34 =>
  vK (aIndexAddr m34 2 y1 a33) m34 fun a35 m36 =>
  loadK (some 2) a35 m36 fun a37 m38 =>
  storeK 2 a4 a37 m38 fun a39 m40 =>
  Q4_8 y0 y1 y2 y3 y4 a2 a4 m40)
  (Q4_8 y0 y1 y2 y3 y4 a2 a4 m11)
theorem g4_9 (call : CL) (n : Nat) (kn : KN) (kx : KX) (b4_8 : C) (b4_11 : C) (k4_11 : KN) (x4_11 : KX) (y0 y1 y2 y3 y4 : AV) (m : Mem) : evK call n (c4_9 b4_8) [(0, y0), (5, y1), (6, y2), (7, y3), (8, y4)] m (jn call n [0, 5, 6, 7] b4_11 k4_11 x4_11) (blkK 1 (jn call n [0, 5, 6, 7] b4_11 k4_11 x4_11) kx) = G4_9 call n kn kx (fun x0 x1 x2 x3 x4 x5 x6 m => evK call n b4_8 [(0, x0), (5, x1), (6, x2), (7, x3), (8, x4), (10, x5), (11, x6)] m (jn call n [0, 5, 6, 7] b4_11 k4_11 x4_11) (blkK 1 (jn call n [0, 5, 6, 7] b4_11 k4_11 x4_11) kx)) y0 y1 y2 y3 y4 m := by kernel_rfl
def k4_9 (call : CL) (n : Nat) (kn : KN) (kx : KX) : KN := (jn call n [0, 5, 6, 7] b4_11 (k4_11 call n kn kx) (x4_11 call n kn kx))
def x4_9 (call : CL) (n : Nat) (kn : KN) (kx : KX) : KX := (blkK 1 (jn call n [0, 5, 6, 7] b4_11 (k4_11 call n kn kx) (x4_11 call n kn kx)) kx)
def S4_9 (call : CL) (n : Nat) (kn : KN) (kx : KX) (y0 y1 y2 y3 y4 : AV) (m : Mem) : Rho := G4_9 call n kn kx (S4_8 call n kn kx) y0 y1 y2 y3 y4 m
def d4_9 (call : CL) (n : Nat) (kn : KN) (kx : KX) (y0 y1 y2 y3 y4 : AV) (m : Mem) : Rho := evK call n b4_9 [(0, y0), (5, y1), (6, y2), (7, y3), (8, y4)] m (k4_9 call n kn kx) (x4_9 call n kn kx)
theorem l4_9 {call : CL} {n : Nat} {kn : KN} {kx : KX} : d4_9 call n kn kx = S4_9 call n kn kx := by
  funext y0 y1 y2 y3 y4 m
  have h : d4_9 call n kn kx y0 y1 y2 y3 y4 m = G4_9 call n kn kx (d4_8 call n kn kx) y0 y1 y2 y3 y4 m := Eq.mp (by kernel_rfl) (g4_9 call n kn kx b4_8 b4_11 (k4_11 call n kn kx) (x4_11 call n kn kx) y0 y1 y2 y3 y4 m)
  rw [l4_8] at h; exact h
def G4_0 (call : CL) (n : Nat) (kn : KN) (kx : KX) (y0 y1 y2 y3 y4 y5 : AV) (m : Mem) : Rho :=
  binK .add y5 (.int .i64 1) fun a0 =>
  kn [(0, y0), (5, y1), (6, y2), (7, y3), (8, y4), (9, a0)] m
theorem g4_0 (call : CL) (n : Nat) (kn : KN) (kx : KX) (y0 y1 y2 y3 y4 y5 : AV) (m : Mem) : evK call n b4_0 [(0, y0), (5, y1), (6, y2), (7, y3), (8, y4), (9, y5)] m kn kx = G4_0 call n kn kx y0 y1 y2 y3 y4 y5 m := by kernel_rfl
def k4_0 (call : CL) (n : Nat) (kn : KN) (kx : KX) : KN := kn
def x4_0 (call : CL) (n : Nat) (kn : KN) (kx : KX) : KX := kx
def S4_0 (call : CL) (n : Nat) (kn : KN) (kx : KX) (y0 y1 y2 y3 y4 y5 : AV) (m : Mem) : Rho := G4_0 call n kn kx y0 y1 y2 y3 y4 y5 m
def d4_0 (call : CL) (n : Nat) (kn : KN) (kx : KX) (y0 y1 y2 y3 y4 y5 : AV) (m : Mem) : Rho := evK call n b4_0 [(0, y0), (5, y1), (6, y2), (7, y3), (8, y4), (9, y5)] m (k4_0 call n kn kx) (x4_0 call n kn kx)
theorem l4_0 {call : CL} {n : Nat} {kn : KN} {kx : KX} : d4_0 call n kn kx = S4_0 call n kn kx := by
  funext y0 y1 y2 y3 y4 y5 m
  have h : d4_0 call n kn kx y0 y1 y2 y3 y4 y5 m = G4_0 call n kn kx y0 y1 y2 y3 y4 y5 m := Eq.mp (by kernel_rfl) (g4_0 call n kn kx y0 y1 y2 y3 y4 y5 m)
  exact h
def G4_1 (call : CL) (n : Nat) (kn : KN) (kx : KX) (Q4_0 : Y6) (y0 y1 y2 y3 y4 y5 : AV) (m : Mem) : Rho :=
  vK (aFieldAddr 4 1 y4) m fun a0 m1 =>
  loadK none a0 m1 fun a2 m3 =>
  vK (aIndexAddr m3 1 a2 y5) m3 fun a4 m5 =>
  loadK none a4 m5 fun a6 m7 =>
  binK .gtr a6 (.int .i64 5) fun a8 =>
  condK a8
  (kx .ret [(2, (.list .full 2 [])), (3, (.list .full 1 [])), (4, (.bool false))] m7)
  (Q4_0 y0 y1 y2 y3 y4 y5 m7)
theorem g4_1 (call : CL) (n : Nat) (kn : KN) (kx : KX) (b4_0 : C) (y0 y1 y2 y3 y4 y5 : AV) (m : Mem) : evK call n (c4_1 b4_0) [(0, y0), (5, y1), (6, y2), (7, y3), (8, y4), (9, y5)] m kn kx = G4_1 call n kn kx (fun x0 x1 x2 x3 x4 x5 m => evK call n b4_0 [(0, x0), (5, x1), (6, x2), (7, x3), (8, x4), (9, x5)] m kn kx) y0 y1 y2 y3 y4 y5 m := by kernel_rfl
def k4_1 (call : CL) (n : Nat) (kn : KN) (kx : KX) : KN := kn
def x4_1 (call : CL) (n : Nat) (kn : KN) (kx : KX) : KX := kx
def S4_1 (call : CL) (n : Nat) (kn : KN) (kx : KX) (y0 y1 y2 y3 y4 y5 : AV) (m : Mem) : Rho := G4_1 call n kn kx (S4_0 call n kn kx) y0 y1 y2 y3 y4 y5 m
def d4_1 (call : CL) (n : Nat) (kn : KN) (kx : KX) (y0 y1 y2 y3 y4 y5 : AV) (m : Mem) : Rho := evK call n b4_1 [(0, y0), (5, y1), (6, y2), (7, y3), (8, y4), (9, y5)] m (k4_1 call n kn kx) (x4_1 call n kn kx)
theorem l4_1 {call : CL} {n : Nat} {kn : KN} {kx : KX} : d4_1 call n kn kx = S4_1 call n kn kx := by
  funext y0 y1 y2 y3 y4 y5 m
  have h : d4_1 call n kn kx y0 y1 y2 y3 y4 y5 m = G4_1 call n kn kx (d4_0 call n kn kx) y0 y1 y2 y3 y4 y5 m := Eq.mp (by kernel_rfl) (g4_1 call n kn kx b4_0 y0 y1 y2 y3 y4 y5 m)
  rw [l4_0] at h; exact h
def G4_2 (call : CL) (n : Nat) (kn : KN) (kx : KX) (Q4_1 : Y6) (y0 y1 y2 y3 y4 y5 : AV) (m : Mem) : Rho :=
  vK (aFieldAddr 4 1 y4) m fun a0 m1 =>
  loadK none a0 m1 fun a2 m3 =>
  vK (aLen m3 1 a2) m3 fun a4 m5 =>
  binK .lss y5 a4 fun a6 =>
  condK a6
  (Q4_1 y0 y1 y2 y3 y4 y5 m5)
  (kx (.ext 2) [(0, y0), (5, y1), (6, y2), (7, y3), (8, y4), (9, y5), (41, a6)] m5)
theorem g4_2 (call : CL) (n : Nat) (kn : KN) (kx : KX) (b4_1 : C) (y0 y1 y2 y3 y4 y5 : AV) (m : Mem) : evK call n (c4_2 b4_1) [(0, y0), (5, y1), (6, y2), (7, y3), (8, y4), (9, y5)] m kn kx = G4_2 call n kn kx (fun x0 x1 x2 x3 x4 x5 m => evK call n b4_1 [(0, x0), (5, x1), (6, x2), (7, x3), (8, x4), (9, x5)] m kn kx) y0 y1 y2 y3 y4 y5 m := by kernel_rfl
def S4_2 (call : CL) (n : Nat) (kn : KN) (kx : KX) (y0 y1 y2 y3 y4 y5 : AV) (m : Mem) : Rho := G4_2 call n kn kx (S4_1 call n kn kx) y0 y1 y2 y3 y4 y5 m
def d4_2 (call : CL) (n : Nat) (kn : KN) (kx : KX) (y0 y1 y2 y3 y4 y5 : AV) (m : Mem) : Rho := evK call n b4_2 [(0, y0), (5, y1), (6, y2), (7, y3), (8, y4), (9, y5)] m kn kx
theorem l4_2 {call : CL} {n : Nat} : d4_2 call n = S4_2 call n := by
  funext kn kx y0 y1 y2 y3 y4 y5 m
  have h : d4_2 call n kn kx y0 y1 y2 y3 y4 y5 m = G4_2 call n kn kx (d4_1 call n kn kx) y0 y1 y2 y3 y4 y5 m := Eq.mp (by kernel_rfl) (g4_2 call n kn kx b4_1 y0 y1 y2 y3 y4 y5 m)
  rw [l4_1] at h; exact h
def G4_10 (call : CL) (n : Nat) (kn : KN) (kx : KX) (B4_2 : KN → KX → Y6) (Q4_9 : Y5) (Q4_11 : Y4) (y0 y1 y2 y3 y4 : AV) (m : Mem) : Rho :=
  loopV [0, 5, 6, 7, 8, 9] none (fun vs m kn kx => unc vs fun x0 vs => unc vs fun x1 vs => unc vs fun x2 vs => unc vs fun x3 vs => unc vs fun x4 vs => unc vs fun x5 vs => unz vs (B4_2 kn kx x0 x1 x2 x3 x4 x5 m)) (blkK 2 (fun e m => keepK e [0, 5, 6, 7, 8] fun vs => unc vs fun x0 vs => unc vs fun x1 vs => unc vs fun x2 vs => unc vs fun x3 vs => unc vs fun x4 vs => unz vs (Q4_9 x0 x1 x2 x3 x4 m)) (blkK 1 (fun e m => keepK e [0, 5, 6, 7] fun vs => unc vs fun x0 vs => unc vs fun x1 vs => unc vs fun x2 vs => unc vs fun x3 vs => unz vs (Q4_11 x0 x1 x2 x3 m)) kx)) n [y0, y1, y2, y3, y4, (.int .i64 0)] m
theorem g4_10 (call : CL) (n : Nat) (kn : KN) (kx : KX) (b4_2 : C) (b4_9 : C) (b4_11 : C) (k4_11 : KN) (x4_11 : KX) (y0 y1 y2 y3 y4 : AV) (m : Mem) : evK call n (c4_10 b4_2 b4_9) [(0, y0), (5, y1), (6, y2), (7, y3), (8, y4)] m (jn call n [0, 5, 6, 7] b4_11 k4_11 x4_11) (blkK 1 (jn call n [0, 5, 6, 7] b4_11 k4_11 x4_11) kx) = G4_10 call n kn kx (fun kn kx x0 x1 x2 x3 x4 x5 m => evK call n b4_2 [(0, x0), (5, x1), (6, x2), (7, x3), (8, x4), (9, x5)] m kn kx) (fun x0 x1 x2 x3 x4 m => evK call n b4_9 [(0, x0), (5, x1), (6, x2), (7, x3), (8, x4)] m (jn call n [0, 5, 6, 7] b4_11 k4_11 x4_11) (blkK 1 (jn call n [0, 5, 6, 7] b4_11 k4_11 x4_11) kx)) (fun x0 x1 x2 x3 m => evK call n b4_11 [(0, x0), (5, x1), (6, x2), (7, x3)] m k4_11 x4_11) y0 y1 y2 y3 y4 m := by kernel_rfl
def k4_10 (call : CL) (n : Nat) (kn : KN) (kx : KX) : KN := (jn call n [0, 5, 6, 7] b4_11 (k4_11 call n kn kx) (x4_11 call n kn kx))
def x4_10 (call : CL) (n : Nat) (kn : KN) (kx : KX) : KX := (blkK 1 (jn call n [0, 5, 6, 7] b4_11 (k4_11 call n kn kx) (x4_11 call n kn kx)) kx)
def S4_10 (call : CL) (n : Nat) (kn : KN) (kx : KX) (y0 y1 y2 y3 y4 : AV) (m : Mem) : Rho := G4_10 call n kn kx (S4_2 call n) (S4_9 call n kn kx) (S4_11 call n kn kx) y0 y1 y2 y3 y4 m
def d4_10 (call : CL) (n : Nat) (kn : KN) (kx : KX) (y0 y1 y2 y3 y4 : AV) (m : Mem) : Rho := evK call n b4_10 [(0, y0), (5, y1), (6, y2), (7, y3), (8, y4)] m (k4_10 call n kn kx) (x4_10 call n kn kx)
theorem l4_10 {call : CL} {n : Nat} {kn : KN} {kx : KX} : d4_10 call n kn kx = S4_10 call n kn kx := by
  funext y0 y1 y2 y3 y4 m
  have h : d4_10 call n kn kx y0 y1 y2 y3 y4 m = G4_10 call n kn kx (d4_2 call n) (d4_9 call n kn kx) (d4_11 call n kn kx) y0 y1 y2 y3 y4 m := Eq.mp (by kernel_rfl) (g4_10 call n kn kx b4_2 b4_9 b4_11 (k4_11 call n kn kx) (x4_11 call n kn kx) y0 y1 y2 y3 y4 m)
  rw [l4_2, l4_9, l4_11] at h; exact h
def G4_12 (call : CL) (n : Nat) (kn : KN) (kx : KX) (Q4_10 : Y5) (y0 y1 y2 y3 : AV) (m : Mem) : Rho :=
  vK (aIndexAddr m 5 y0 y3) m fun a0 m1 =>
  loadK (some 5) a0 m1 fun a2 m3 =>
  newK [(.int .i64 0), (.int .i64 0), (.int .i64 0), (.int .i64 0), (.list .full 0 [])] m3 fun a4 m5 =>
  storeK 5 a4 a2 m5 fun a6 m7 =>
  vK (aFieldAddr 1 1 a4) m7 fun a8 m9 =>
  loadK none a8 m9 fun a10 m11 =>
  binK .gtr a10 (.int .i64 5) fun a12 =>
  gK a12 false (fun k => vK (aFieldAddr 4 1 a4) m11 fun a13 m14 =>
  k a13 m14) m11 fun a15 m16 =>
  gK a12 false (fun k => loadK none a15 m16 fun a17 m18 =>
  k a17 m18) m16 fun a19 m20 =>
  gK a12 false (fun k => vK (aLen m20 1 a19) m20 fun a21 m22 =>
  k a21 m22) m20 fun a23 m24 =>
  gK a12 false (fun k => binK .gtr a23 (.int .i64 8) fun a25 =>
  k a25 m24) m24 fun a26 m27 =>
  pickK a12 (some (.bool true)) (some a26) fun a28 =>
  condK a28
  (kx .ret [(2, (.list .full 2 [])), (3, (.list .full 1 [])), (4, (.bool false))] m27)
  (Q4_10 y0 y1 y2 y3 a4 m27)
theorem g4_12 (call : CL) (n : Nat) (kn : KN) (kx : KX) (b4_10 : C) (b4_11 : C) (y0 y1 y2 y3 : AV) (m : Mem) : evK call n (c4_12 b4_10 b4_11) [(0, y0), (5, y1), (6, y2), (7, y3)] m kn kx = G4_12 call n kn kx (fun x0 x1 x2 x3 x4 m => evK call n b4_10 [(0, x0), (5, x1), (6, x2), (7, x3), (8, x4)] m (jn call n [0, 5, 6, 7] b4_11 kn kx) (blkK 1 (jn call n [0, 5, 6, 7] b4_11 kn kx) kx)) y0 y1 y2 y3 m := by kernel_rfl
def k4_12 (call : CL) (n : Nat) (kn : KN) (kx : KX) : KN := kn
def x4_12 (call : CL) (n : Nat) (kn : KN) (kx : KX) : KX := kx
def S4_12 (call : CL) (n : Nat) (kn : KN) (kx : KX) (y0 y1 y2 y3 : AV) (m : Mem) : Rho := G4_12 call n kn kx (S4_10 call n kn kx) y0 y1 y2 y3 m
def d4_12 (call : CL) (n : Nat) (kn : KN) (kx : KX) (y0 y1 y2 y3 : AV) (m : Mem) : Rho := evK call n b4_12 [(0, y0), (5, y1), (6, y2), (7, y3)] m (k4_12 call n kn kx) (x4_12 call n kn kx)
theorem l4_12 {call : CL} {n : Nat} {kn : KN} {kx : KX} : d4_12 call n kn kx = S4_12 call n kn kx := by
  funext y0 y1 y2 y3 m
  have h : d4_12 call n kn kx y0 y1 y2 y3 m = G4_12 call n kn kx (d4_10 call n kn kx) y0 y1 y2 y3 m := Eq.mp (by kernel_rfl) (g4_12 call n kn kx b4_10 b4_11 y0 y1 y2 y3 m)
  rw [l4_10] at h; exact h
def G4_13 (call : CL) (n : Nat) (kn : KN) (kx : KX) (Q4_12 : Y4) (y0 y1 y2 y3 : AV) (m : Mem) : Rho :=
  vK (aLen m 1 y0) m fun a0 m1 =>
  binK .lss y3 a0 fun a2 =>
  condK a2
  (Q4_12 y0 y1 y2 y3 m1)
  (kx (.ext 0) [(0, y0), (5, y1), (6, y2), (7, y3), (21, a2)] m1)
theorem g4_13 (call : CL) (n : Nat) (kn : KN) (kx : KX) (b4_12 : C) (y0 y1 y2 y3 : AV) (m : Mem) : evK call n (c4_13 b4_12) [(0, y0), (5, y1), (6, y2), (7, y3)] m kn kx = G4_13 call n kn kx (fun x0 x1 x2 x3 m => evK call n b4_12 [(0, x0), (5, x1), (6, x2), (7, x3)] m kn kx) y0 y1 y2 y3 m := by kernel_rfl
def S4_13 (call : CL) (n : Nat) (kn : KN) (kx : KX) (y0 y1 y2 y3 : AV) (m : Mem) : Rho := G4_13 call n kn kx (S4_12 call n kn kx) y0 y1 y2 y3 m
def d4_13 (call : CL) (n : Nat) (kn : KN) (kx : KX) (y0 y1 y2 y3 : AV) (m : Mem) : Rho := evK call n b4_13 [(0, y0), (5, y1), (6, y2), (7, y3)] m kn kx
theorem l4_13 {call : CL} {n : Nat} : d4_13 call n = S4_13 call n := by
  funext kn kx y0 y1 y2 y3 m
  have h : d4_13 call n kn kx y0 y1 y2 y3 m = G4_13 call n kn kx (d4_12 call n kn kx) y0 y1 y2 y3 m := Eq.mp (by kernel_rfl) (g4_13 call n kn kx b4_12 y0 y1 y2 y3 m)
  rw [l4_12] at h; exact h
def G4_15 (call : CL) (n : Nat) (m0 : Mem) (B4_13 : KN → KX → Y4) (Q4_14 : Y2) (y0 : AV) (m : Mem) : Rho :=
  tipK 2 m fun a0 m1 =>
  tipK 1 m1 fun a2 m3 =>
  loopV [0, 5, 6, 7] none (fun vs m kn kx => unc vs fun x0 vs => unc vs fun x1 vs => unc vs fun x2 vs => unc vs fun x3 vs => unz vs (B4_13 kn kx x0 x1 x2 x3 m)) (blkK 0 (fun e m => keepK e [5, 6] fun vs => unc vs fun x0 vs => unc vs fun x1 vs => unz vs (Q4_14 x0 x1 m)) (endK f4 m0)) n [y0, a0, a2, (.int .i64 0)] m3
theorem g4_15 (call : CL) (n : Nat) (m0 : Mem) (b4_13 : C) (b4_14 : C) (y0 : AV) (m : Mem) : evK call n (c4_15 b4_13 b4_14) [(0, y0)] m (fun e m => endK f4 m0 .nrm e m) (endK f4 m0) = G4_15 call n m0 (fun kn kx x0 x1 x2 x3 m => evK call n b4_13 [(0, x0), (5, x1), (6, x2), (7, x3)] m kn kx) (fun x0 x1 m => evK call n b4_14 [(5, x0), (6, x1)] m (fun e m => endK f4 m0 .nrm e m) (endK f4 m0)) y0 m := by kernel_rfl
def k4_15 (call : CL) (n : Nat) (m0 : Mem) : KN := (fun e m => endK f4 m0 .nrm e m)
def x4_15 (call : CL) (n : Nat) (m0 : Mem) : KX := (endK f4 m0)
def S4_15 (call : CL) (n : Nat) (m0 : Mem) (y0 : AV) (m : Mem) : Rho := G4_15 call n m0 (S4_13 call n) (S4_14 call n m0) y0 m
def d4_15 (call : CL) (n : Nat) (m0 : Mem) (y0 : AV) (m : Mem) : Rho := evK call n b4_15 [(0, y0)] m (k4_15 call n m0) (x4_15 call n m0)
theorem l4_15 {call : CL} {n : Nat} {m0 : Mem} : d4_15 call n m0 = S4_15 call n m0 := by
  funext y0 m
  have h : d4_15 call n m0 y0 m = G4_15 call n m0 (d4_13 call n) (d4_14 call n m0) y0 m := Eq.mp (by kernel_rfl) (g4_15 call n m0 b4_13 b4_14 y0 m)
  rw [l4_13, l4_14] at h; exact h
def G4 (call : CL) (n : Nat) (m0 : Mem) (Q4_15 : Y1) (y0 : AV) (m : Mem) : Rho :=
  vK (aLen m 1 y0) m fun a0 m1 =>
  binK .gtr a0 (.int .i64 20) fun a2 =>
  condK a2
  (retK false false m0 [(.list .full 2 []), (.list .full 1 []), (.bool false)] m1)
  (Q4_15 y0 m1)
theorem g4 (call : CL) (n : Nat) (m0 : Mem) (b4_15 : C) (y0 : AV) (m : Mem) : evK call n (c4 b4_15) [(0, y0)] m (fun e m => endK f4 m0 .nrm e m) (endK f4 m0) = G4 call n m0 (fun x0 m => evK call n b4_15 [(0, x0)] m (fun e m => endK f4 m0 .nrm e m) (endK f4 m0)) y0 m := by kernel_rfl
def S4 (call : CL) (n : Nat) (m0 : Mem) (y0 : AV) : Rho := G4 call n m0 (S4_15 call n m0) y0 { m0 with bad := none }
theorem s4 (call : CL) (n : Nat) (m0 : Mem) (y0 : AV) : bodyK call n f4 [y0] m0 = S4 call n m0 y0 :=
  have h : bodyK call n f4 [y0] m0 = G4 call n m0 (d4_15 call n m0) y0 { m0 with bad := none } := Eq.mp (by kernel_rfl) (g4 call n m0 b4_15 y0 { m0 with bad := none })
  by rw [l4_15] at h; exact h
def F4 : SF := fun call n vs m0 => unc vs fun x0 vs => unz vs (S4 call n m0 x0)
theorem F4_ok {orc : List AV → Mem → Option (AV × Mem)} : SOk 4 { f4 with orc := orc } F4 := by
  intro call n vs m0 ho r h0
  simp only [F4] at h0
  obtain ⟨y0, v0, rfl, h1⟩ := unc_some h0
  obtain ⟨rfl, hz⟩ := unz_some h1
  exact bodyK_le ho rfl r (Eq.mp (by kernel_rfl) ((s4 call n m0 y0).trans hz))

-- resolvent/resolventlaw16.wakes
def G5 (call : CL) (n : Nat) (m0 : Mem) (m : Mem) : Rho :=
  callK call (.func 14 [] []) false [(.int .i64 0)] m fun a0 m1 =>
  buildSliceK 1 [(.int .i64 0)] 2 false [(0 * 1, 1, AV.untag (.int .i64 1)), (1 * 1, 1, AV.untag (.int .i64 2))] m1 fun a2 m3 =>
  callK call (.func 15 [] []) false [(.int .i64 0), a2] m3 fun a4 m5 =>
  callK call (.func 16 [] []) false [a0, a4] m5 fun a6 m7 =>
  newK [(.list .full 0 []), (.bool false)] m7 fun a8 m9 =>
  storeK 2 a8 a6 m9 fun a10 m11 =>
  callK call (.func 14 [] []) false [(.int .i64 0)] m11 fun a12 m13 =>
  callK call (.func 14 [] []) false [(.int .i64 1)] m13 fun a14 m15 =>
  callK call (.func 16 [] []) false [a12, a14] m15 fun a16 m17 =>
  callK call (.func 18 [] []) false [a16, (.int .i64 0)] m17 fun a18 m19 =>
  newK [(.list .full 0 []), (.bool false)] m19 fun a20 m21 =>
  storeK 2 a20 a18 m21 fun a22 m23 =>
  callK call (.func 14 [] []) false [(.int .i64 0)] m23 fun a24 m25 =>
  callK call (.func 13 [] []) false [(.bool true)] m25 fun a26 m27 =>
  callK call (.func 17 [] []) false [a24, a26] m27 fun a28 m29 =>
  newK [(.list .full 0 []), (.bool false)] m29 fun a30 m31 =>
  storeK 2 a30 a28 m31 fun a32 m33 =>
  loadK (some 2) a8 m33 fun a34 m35 =>
  callK call (.func 21 [] []) false [a34, (.int .i64 1)] m35 fun a36 m37 =>
  gDK a36 true (fun k => loadK (some 2) a8 m37 fun a38 m39 =>
  k a38 m39) m37 fun r40 a41 m42 =>
  gDK a36 true (fun k => callK call (.func 21 [] []) false [a41, (.int .i64 2)] m42 fun a43 m44 =>
  k a43 m44) m42 fun r45 a46 m47 =>
  pickK a36 (some a46) (some (.bool false)) fun a48 =>
  gDK a48 true (fun k => loadK (some 2) a8 m47 fun a49 m50 =>
  k a49 m50) m47 fun r51 a52 m53 =>
  gDK a48 true (fun k => callK call (.func 21 [] []) false [a52, (.int .i64 3)] m53 fun a54 m55 =>
  k a54 m55) m53 fun r56 a57 m58 =>
  gDK a48 true (fun k => unK .not a57 fun a59 =>
  k a59 m58) m58 fun r60 a61 m62 =>
  pickK a48 (some a61) (some (.bool false)) fun a63 =>
  gDK a63 true (fun k => loadK (some 2) a20 m62 fun a64 m65 =>
  k a64 m65) m62 fun r66 a67 m68 =>
  gDK a63 true (fun k => callK call (.func 14 [] []) false [(.int .i64 1)] m68 fun a69 m70 =>
  k a69 m70) m68 fun r71 a72 m73 =>
  gDK a63 true (fun k => callK call (.func 11 [] []) false [a67, a72] m73 fun a74 m75 =>
  k a74 m75) m73 fun r76 a77 m78 =>
  pickK a63 (some a77) (some (.bool false)) fun a79 =>
  gDK a79 true (fun k => loadK (some 2) a30 m78 fun a80 m81 =>
  k a80 m81) m78 fun r82 a83 m84 =>
  gDK a79 true (fun k => callK call (.func 13 [] []) false [(.bool true)] m84 fun a85 m86 =>
  k a85 m86) m84 fun r87 a88 m89 =>
  gDK a79 true (fun k => callK call (.func 11 [] []) false [a83, a88] m89 fun a90 m91 =>
  k a90 m91) m89 fun r92 a93 m94 =>
  pickK a79 (some a93) (some (.bool false)) fun a95 =>
  gDK a95 true (fun k => loadK (some 2) a30 m94 fun a96 m97 =>
  k a96 m97) m94 fun r98 a99 m100 =>
  gDK a95 true (fun k => callK call (.func 22 [] []) false [a99] m100 fun a101 m102 =>
  k a101 m102) m100 fun r103 a104 m105 =>
  gDK a95 true (fun k => binK .eql a104 (.int .i64 0) fun a106 =>
  k a106 m105) m105 fun r107 a108 m109 =>
  pickK a95 (some a108) (some (.bool false)) fun a110 =>
  gDK a110 true (fun k => callK call (.func 14 [] []) false [(.int .i64 3)] m109 fun a111 m112 =>
  k a111 m112) m109 fun r113 a114 m115 =>
  gDK a110 true (fun k => buildSliceK 1 [(.int .i64 0)] 1 false [(0 * 1, 1, AV.untag (.int .i64 3))] m115 fun a116 m117 =>
  k a116 m117) m115 fun r118 a119 m120 =>
  gDK a110 true (fun k => callK call (.func 8 [] []) false [a114, a119] m120 fun a121 m122 =>
  k a121 m122) m120 fun r123 a124 m125 =>
  pickK a110 (some a124) (some (.bool false)) fun a126 =>
  gDK a126 true (fun k => callK call (.func 14 [] []) false [(.int .i64 3)] m125 fun a127 m128 =>
  k a127 m128) m125 fun r129 a130 m131 =>
  gDK a126 true (fun k => callK call (.func 8 [] []) false [a130, (.list .full 0 [])] m131 fun a132 m133 =>
  k a132 m133) m131 fun r134 a135 m136 =>
  gDK a126 true (fun k => unK .not a135 fun a137 =>
  k a137 m136) m136 fun r138 a139 m140 =>
  pickK a126 (some a139) (some (.bool false)) fun a141 =>
  cond (stayK [m33, m37, m47, m58, m73, m78, m89, m94, m105, m115, m125, m131, m136] [(fun m => m.load (some 2) a20, a67, 3, 2, r66), (fun m => m.load (some 2) a30, a83, 5, 2, r82)]) (retK false false m0 [a141] m140) none
theorem g5 (call : CL) (n : Nat) (m0 : Mem) (m : Mem) : evK call n b5 [] m (fun e m => endK f5 m0 .nrm e m) (endK f5 m0) = G5 call n m0 m := by kernel_rfl
def S5 (call : CL) (n : Nat) (m0 : Mem) : Rho := G5 call n m0 { m0 with bad := none }
theorem s5 (call : CL) (n : Nat) (m0 : Mem) : bodyK call n f5 [] m0 = S5 call n m0 :=
  have h : bodyK call n f5 [] m0 = G5 call n m0 { m0 with bad := none } := Eq.mp (by kernel_rfl) (g5 call n m0 { m0 with bad := none })
  h
def F5 : SF := fun call n vs m0 => unz vs (S5 call n m0)
theorem F5_ok {orc : List AV → Mem → Option (AV × Mem)} : SOk 5 { f5 with orc := orc } F5 := by
  intro call n vs m0 ho r h0
  simp only [F5] at h0
  obtain ⟨rfl, hz⟩ := unz_some h0
  exact bodyK_le ho rfl r (Eq.mp (by kernel_rfl) ((s5 call n m0).trans hz))

-- (resolvent/pos.Func).Vars
def G6_2 (call : CL) (n : Nat) (m0 : Mem) (y0 : AV) (m : Mem) : Rho :=
  callK call (.func 23 [] []) false [y0] m fun a0 m1 =>
  callK call (.func 24 [] []) false [y0] m1 fun a2 m3 =>
  retK false false m0 [a2] m3
theorem g6_2 (call : CL) (n : Nat) (m0 : Mem) (y0 : AV) (m : Mem) : evK call n b6_2 [(3, y0)] m (fun e m => endK f6 m0 .nrm e m) (endK f6 m0) = G6_2 call n m0 y0 m := by kernel_rfl
def k6_2 (call : CL) (n : Nat) (m0 : Mem) : KN := (fun e m => endK f6 m0 .nrm e m)
def x6_2 (call : CL) (n : Nat) (m0 : Mem) : KX := (endK f6 m0)
def S6_2 (call : CL) (n : Nat) (m0 : Mem) (y0 : AV) (m : Mem) : Rho := G6_2 call n m0 y0 m
def d6_2 (call : CL) (n : Nat) (m0 : Mem) (y0 : AV) (m : Mem) : Rho := evK call n b6_2 [(3, y0)] m (k6_2 call n m0) (x6_2 call n m0)
theorem l6_2 {call : CL} {n : Nat} {m0 : Mem} : d6_2 call n m0 = S6_2 call n m0 := by
  funext y0 m
  have h : d6_2 call n m0 y0 m = G6_2 call n m0 y0 m := Eq.mp (by kernel_rfl) (g6_2 call n m0 y0 m)
  exact h
def G6_0 (call : CL) (n : Nat) (kn : KN) (kx : KX) (y0 y1 y2 y3 : AV) (m : Mem) : Rho :=
  vK (aIndexAddr m 3 y1 y3) m fun a0 m1 =>
  loadK (some 3) a0 m1 fun a2 m3 =>
  newK [(.int .i64 0), (.int .i64 0), (.int .i64 0)] m3 fun a4 m5 =>
  storeK 3 a4 a2 m5 fun a6 m7 =>
  vK (aFieldAddr 0 1 a4) m7 fun a8 m9 =>
  loadK none a8 m9 fun a10 m11 =>
  buildSliceK 1 [(.int .i64 0)] 1 false [(0 * 1, 1, AV.untag a10)] m11 fun a12 m13 =>
  appendK 1 8 1 y0 a12 m13 fun a14 m15 =>
  binK .add y3 (.int .i64 1) fun a16 =>
  kn [(3, a14), (7, y1), (8, y2), (9, a16)] m15
theorem g6_0 (call : CL) (n : Nat) (kn : KN) (kx : KX) (y0 y1 y2 y3 : AV) (m : Mem) : evK call n b6_0 [(3, y0), (7, y1), (8, y2), (9, y3)] m kn kx = G6_0 call n kn kx y0 y1 y2 y3 m := by kernel_rfl
def k6_0 (call : CL) (n : Nat) (kn : KN) (kx : KX) : KN := kn
def x6_0 (call : CL) (n : Nat) (kn : KN) (kx : KX) : KX := kx
def S6_0 (call : CL) (n : Nat) (kn : KN) (kx : KX) (y0 y1 y2 y3 : AV) (m : Mem) : Rho := G6_0 call n kn kx y0 y1 y2 y3 m
def d6_0 (call : CL) (n : Nat) (kn : KN) (kx : KX) (y0 y1 y2 y3 : AV) (m : Mem) : Rho := evK call n b6_0 [(3, y0), (7, y1), (8, y2), (9, y3)] m (k6_0 call n kn kx) (x6_0 call n kn kx)
theorem l6_0 {call : CL} {n : Nat} {kn : KN} {kx : KX} : d6_0 call n kn kx = S6_0 call n kn kx := by
  funext y0 y1 y2 y3 m
  have h : d6_0 call n kn kx y0 y1 y2 y3 m = G6_0 call n kn kx y0 y1 y2 y3 m := Eq.mp (by kernel_rfl) (g6_0 call n kn kx y0 y1 y2 y3 m)
  exact h
def G6_1 (call : CL) (n : Nat) (kn : KN) (kx : KX) (Q6_0 : Y4) (y0 y1 y2 y3 : AV) (m : Mem) : Rho :=
  binK .lss y3 y2 fun a0 =>
  condK a0
  (Q6_0 y0 y1 y2 y3 m)
  (kx (.ext 0) [(3, y0), (7, y1), (8, y2), (9, y3), (10, a0)] m)
theorem g6_1 (call : CL) (n : Nat) (kn : KN) (kx : KX) (b6_0 : C) (y0 y1 y2 y3 : AV) (m : Mem) : evK call n (c6_1 b6_0) [(3, y0), (7, y1), (8, y2), (9, y3)] m kn kx = G6_1 call n kn kx (fun x0 x1 x2 x3 m => evK call n b6_0 [(3, x0), (7, x1), (8, x2), (9, x3)] m kn kx) y0 y1 y2 y3 m := by kernel_rfl
def S6_1 (call : CL) (n : Nat) (kn : KN) (kx : KX) (y0 y1 y2 y3 : AV) (m : Mem) : Rho := G6_1 call n kn kx (S6_0 call n kn kx) y0 y1 y2 y3 m
def d6_1 (call : CL) (n : Nat) (kn : KN) (kx : KX) (y0 y1 y2 y3 : AV) (m : Mem) : Rho := evK call n b6_1 [(3, y0), (7, y1), (8, y2), (9, y3)] m kn kx
theorem l6_1 {call : CL} {n : Nat} : d6_1 call n = S6_1 call n := by
  funext kn kx y0 y1 y2 y3 m
  have h : d6_1 call n kn kx y0 y1 y2 y3 m = G6_1 call n kn kx (d6_0 call n kn kx) y0 y1 y2 y3 m := Eq.mp (by kernel_rfl) (g6_1 call n kn kx b6_0 y0 y1 y2 y3 m)
  rw [l6_0] at h; exact h
def G6 (call : CL) (n : Nat) (m0 : Mem) (B6_1 : KN → KX → Y4) (Q6_2 : Y1) (y0 : AV) (m : Mem) : Rho :=
  boxK y0 m fun a0 m1 =>
  vK (aFieldAddr 0 1 a0) m1 fun a2 m3 =>
  loadK none a2 m3 fun a4 m5 =>
  vK (aLen m5 1 a4) m5 fun a6 m7 =>
  loopV [3, 7, 8, 9] none (fun vs m kn kx => unc vs fun x0 vs => unc vs fun x1 vs => unc vs fun x2 vs => unc vs fun x3 vs => unz vs (B6_1 kn kx x0 x1 x2 x3 m)) (blkK 0 (fun e m => keepK e [3] fun vs => unc vs fun x0 vs => unz vs (Q6_2 x0 m)) (endK f6 m0)) n [(.list .full 1 []), a4, a6, (.int .i64 0)] m7
theorem g6 (call : CL) (n : Nat) (m0 : Mem) (b6_1 : C) (b6_2 : C) (y0 : AV) (m : Mem) : evK call n (c6 b6_1 b6_2) [(0, y0)] m (fun e m => endK f6 m0 .nrm e m) (endK f6 m0) = G6 call n m0 (fun kn kx x0 x1 x2 x3 m => evK call n b6_1 [(3, x0), (7, x1), (8, x2), (9, x3)] m kn kx) (fun x0 m => evK call n b6_2 [(3, x0)] m (fun e m => endK f6 m0 .nrm e m) (endK f6 m0)) y0 m := by kernel_rfl
def S6 (call : CL) (n : Nat) (m0 : Mem) (y0 : AV) : Rho := G6 call n m0 (S6_1 call n) (S6_2 call n m0) y0 { m0 with bad := none }
theorem s6 (call : CL) (n : Nat) (m0 : Mem) (y0 : AV) : bodyK call n f6 [y0] m0 = S6 call n m0 y0 :=
  have h : bodyK call n f6 [y0] m0 = G6 call n m0 (d6_1 call n) (d6_2 call n m0) y0 { m0 with bad := none } := Eq.mp (by kernel_rfl) (g6 call n m0 b6_1 b6_2 y0 { m0 with bad := none })
  by rw [l6_1, l6_2] at h; exact h
def F6 : SF := fun call n vs m0 => unc vs fun x0 vs => unz vs (S6 call n m0 x0)
theorem F6_ok {orc : List AV → Mem → Option (AV × Mem)} : SOk 6 { f6 with orc := orc } F6 := by
  intro call n vs m0 ho r h0
  simp only [F6] at h0
  obtain ⟨y0, v0, rfl, h1⟩ := unc_some h0
  obtain ⟨rfl, hz⟩ := unz_some h1
  exact bodyK_le ho rfl r (Eq.mp (by kernel_rfl) ((s6 call n m0 y0).trans hz))

-- resolvent/resolventlaw16.bit
def G7 (call : CL) (n : Nat) (m0 : Mem) (y0 y1 : AV) (m : Mem) : Rho :=
  binK .geq y1 (.int .i64 0) fun a0 =>
  gK a0 true (fun k => k y1 m) m fun a1 m2 =>
  gK a0 true (fun k => binK .lss a1 (.int .i64 6) fun a3 =>
  k a3 m2) m2 fun a4 m5 =>
  pickK a0 (some a4) (some (.bool false)) fun a6 =>
  gK a6 true (fun k => k y0 m5) m5 fun a7 m8 =>
  gK a6 true (fun k => k y1 m8) m8 fun a9 m10 =>
  gK a6 true (fun k => binK .shr a7 a9 fun a11 =>
  k a11 m10) m10 fun a12 m13 =>
  gK a6 true (fun k => binK .and a12 (.int .i64 1) fun a14 =>
  k a14 m13) m13 fun a15 m16 =>
  gK a6 true (fun k => binK .eql a15 (.int .i64 1) fun a17 =>
  k a17 m16) m16 fun a18 m19 =>
  pickK a6 (some a18) (some (.bool false)) fun a20 =>
  retK false false m0 [a20] m19
theorem g7 (call : CL) (n : Nat) (m0 : Mem) (y0 y1 : AV) (m : Mem) : evK call n b7 [(0, y0), (1, y1)] m (fun e m => endK f7 m0 .nrm e m) (endK f7 m0) = G7 call n m0 y0 y1 m := by kernel_rfl
def S7 (call : CL) (n : Nat) (m0 : Mem) (y0 y1 : AV) : Rho := G7 call n m0 y0 y1 { m0 with bad := none }
theorem s7 (call : CL) (n : Nat) (m0 : Mem) (y0 y1 : AV) : bodyK call n f7 [y0, y1] m0 = S7 call n m0 y0 y1 :=
  have h : bodyK call n f7 [y0, y1] m0 = G7 call n m0 y0 y1 { m0 with bad := none } := Eq.mp (by kernel_rfl) (g7 call n m0 y0 y1 { m0 with bad := none })
  h
def F7 : SF := fun call n vs m0 => unc vs fun x0 vs => unc vs fun x1 vs => unz vs (S7 call n m0 x0 x1)
theorem F7_ok {orc : List AV → Mem → Option (AV × Mem)} : SOk 7 { f7 with orc := orc } F7 := by
  intro call n vs m0 ho r h0
  simp only [F7] at h0
  obtain ⟨y0, v0, rfl, h1⟩ := unc_some h0
  obtain ⟨y1, v1, rfl, h2⟩ := unc_some h1
  obtain ⟨rfl, hz⟩ := unz_some h2
  exact bodyK_le ho rfl r (Eq.mp (by kernel_rfl) ((s7 call n m0 y0 y1).trans hz))

-- (resolvent/pos.Func).Eval
def G8_2 (call : CL) (n : Nat) (m0 : Mem) (y0 : AV) (m : Mem) : Rho :=
  binK .eql y0 (.int .i64 1) fun a0 =>
  retK false false m0 [a0] m
theorem g8_2 (call : CL) (n : Nat) (m0 : Mem) (y0 : AV) (m : Mem) : evK call n b8_2 [(5, y0)] m (fun e m => endK f8 m0 .nrm e m) (endK f8 m0) = G8_2 call n m0 y0 m := by kernel_rfl
def k8_2 (call : CL) (n : Nat) (m0 : Mem) : KN := (fun e m => endK f8 m0 .nrm e m)
def x8_2 (call : CL) (n : Nat) (m0 : Mem) : KX := (endK f8 m0)
def S8_2 (call : CL) (n : Nat) (m0 : Mem) (y0 : AV) (m : Mem) : Rho := G8_2 call n m0 y0 m
def d8_2 (call : CL) (n : Nat) (m0 : Mem) (y0 : AV) (m : Mem) : Rho := evK call n b8_2 [(5, y0)] m (k8_2 call n m0) (x8_2 call n m0)
theorem l8_2 {call : CL} {n : Nat} {m0 : Mem} : d8_2 call n m0 = S8_2 call n m0 := by
  funext y0 m
  have h : d8_2 call n m0 y0 m = G8_2 call n m0 y0 m := Eq.mp (by kernel_rfl) (g8_2 call n m0 y0 m)
  exact h
def G8_0 (call : CL) (n : Nat) (kn : KN) (kx : KX) (y0 y1 y2 : AV) (m : Mem) : Rho :=
  vK (aFieldAddr 0 1 y1) m fun a0 m1 =>
  loadK none a0 m1 fun a2 m3 =>
  binK .sub y2 (.int .i64 2) fun a4 =>
  vK (aIndexAddr m3 3 a2 a4) m3 fun a5 m6 =>
  loadK (some 3) a5 m6 fun a7 m8 =>
  newK [(.int .i64 0), (.int .i64 0), (.int .i64 0)] m8 fun a9 m10 =>
  storeK 3 a9 a7 m10 fun a11 m12 =>
  vK (aFieldAddr 1 1 a9) m12 fun a13 m14 =>
  loadK none a13 m14 fun a15 m16 =>
  vK (aFieldAddr 0 1 a9) m16 fun a17 m18 =>
  loadK none a17 m18 fun a19 m20 =>
  callK call (.func 25 [] []) false [y0, a19] m20 fun a21 m22 =>
  condK a21
  (vK (aFieldAddr 2 1 a9) m22 fun a23 m24 =>
  loadK none a23 m24 fun a25 m26 =>
  kn [(1, y0), (2, y1), (5, a25)] m26)
  (kn [(1, y0), (2, y1), (5, a15), (6, a9), (30, a21)] m22)
theorem g8_0 (call : CL) (n : Nat) (kn : KN) (kx : KX) (y0 y1 y2 : AV) (m : Mem) : evK call n b8_0 [(1, y0), (2, y1), (5, y2)] m kn kx = G8_0 call n kn kx y0 y1 y2 m := by kernel_rfl
def k8_0 (call : CL) (n : Nat) (kn : KN) (kx : KX) : KN := kn
def x8_0 (call : CL) (n : Nat) (kn : KN) (kx : KX) : KX := kx
def S8_0 (call : CL) (n : Nat) (kn : KN) (kx : KX) (y0 y1 y2 : AV) (m : Mem) : Rho := G8_0 call n kn kx y0 y1 y2 m
def d8_0 (call : CL) (n : Nat) (kn : KN) (kx : KX) (y0 y1 y2 : AV) (m : Mem) : Rho := evK call n b8_0 [(1, y0), (2, y1), (5, y2)] m (k8_0 call n kn kx) (x8_0 call n kn kx)
theorem l8_0 {call : CL} {n : Nat} {kn : KN} {kx : KX} : d8_0 call n kn kx = S8_0 call n kn kx := by
  funext y0 y1 y2 m
  have h : d8_0 call n kn kx y0 y1 y2 m = G8_0 call n kn kx y0 y1 y2 m := Eq.mp (by kernel_rfl) (g8_0 call n kn kx y0 y1 y2 m)
  exact h
def G8_1 (call : CL) (n : Nat) (kn : KN) (kx : KX) (Q8_0 : Y3) (y0 y1 y2 : AV) (m : Mem) : Rho :=
  binK .geq y2 (.int .i64 2) fun a0 =>
  condK a0
  (Q8_0 y0 y1 y2 m)
  (kx (.ext 0) [(1, y0), (2, y1), (5, y2), (18, a0)] m)
theorem g8_1 (call : CL) (n : Nat) (kn : KN) (kx : KX) (b8_0 : C) (y0 y1 y2 : AV) (m : Mem) : evK call n (c8_1 b8_0) [(1, y0), (2, y1), (5, y2)] m kn kx = G8_1 call n kn kx (fun x0 x1 x2 m => evK call n b8_0 [(1, x0), (2, x1), (5, x2)] m kn kx) y0 y1 y2 m := by kernel_rfl
def S8_1 (call : CL) (n : Nat) (kn : KN) (kx : KX) (y0 y1 y2 : AV) (m : Mem) : Rho := G8_1 call n kn kx (S8_0 call n kn kx) y0 y1 y2 m
def d8_1 (call : CL) (n : Nat) (kn : KN) (kx : KX) (y0 y1 y2 : AV) (m : Mem) : Rho := evK call n b8_1 [(1, y0), (2, y1), (5, y2)] m kn kx
theorem l8_1 {call : CL} {n : Nat} : d8_1 call n = S8_1 call n := by
  funext kn kx y0 y1 y2 m
  have h : d8_1 call n kn kx y0 y1 y2 m = G8_1 call n kn kx (d8_0 call n kn kx) y0 y1 y2 m := Eq.mp (by kernel_rfl) (g8_1 call n kn kx b8_0 y0 y1 y2 m)
  rw [l8_0] at h; exact h
def G8_3 (call : CL) (n : Nat) (m0 : Mem) (B8_1 : KN → KX → Y3) (Q8_2 : Y1) (y0 y1 : AV) (m : Mem) : Rho :=
  vK (aFieldAddr 0 1 y1) m fun a0 m1 =>
  loadK none a0 m1 fun a2 m3 =>
  vK (aLen m3 1 a2) m3 fun a4 m5 =>
  binK .add a4 (.int .i64 1) fun a6 =>
  loopV [1, 2, 5] none (fun vs m kn kx => unc vs fun x0 vs => unc vs fun x1 vs => unc vs fun x2 vs => unz vs (B8_1 kn kx x0 x1 x2 m)) (blkK 0 (fun e m => keepK e [5] fun vs => unc vs fun x0 vs => unz vs (Q8_2 x0 m)) (endK f8 m0)) n [y0, y1, a6] m5
theorem g8_3 (call : CL) (n : Nat) (m0 : Mem) (b8_1 : C) (b8_2 : C) (y0 y1 : AV) (m : Mem) : evK call n (c8_3 b8_1 b8_2) [(1, y0), (2, y1)] m (fun e m => endK f8 m0 .nrm e m) (endK f8 m0) = G8_3 call n m0 (fun kn kx x0 x1 x2 m => evK call n b8_1 [(1, x0), (2, x1), (5, x2)] m kn kx) (fun x0 m => evK call n b8_2 [(5, x0)] m (fun e m => endK f8 m0 .nrm e m) (endK f8 m0)) y0 y1 m := by kernel_rfl
def k8_3 (call : CL) (n : Nat) (m0 : Mem) : KN := (fun e m => endK f8 m0 .nrm e m)
def x8_3 (call : CL) (n : Nat) (m0 : Mem) : KX := (endK f8 m0)
def S8_3 (call : CL) (n : Nat) (m0 : Mem) (y0 y1 : AV) (m : Mem) : Rho := G8_3 call n m0 (S8_1 call n) (S8_2 call n m0) y0 y1 m
def d8_3 (call : CL) (n : Nat) (m0 : Mem) (y0 y1 : AV) (m : Mem) : Rho := evK call n b8_3 [(1, y0), (2, y1)] m (k8_3 call n m0) (x8_3 call n m0)
theorem l8_3 {call : CL} {n : Nat} {m0 : Mem} : d8_3 call n m0 = S8_3 call n m0 := by
  funext y0 y1 m
  have h : d8_3 call n m0 y0 y1 m = G8_3 call n m0 (d8_1 call n) (d8_2 call n m0) y0 y1 m := Eq.mp (by kernel_rfl) (g8_3 call n m0 b8_1 b8_2 y0 y1 m)
  rw [l8_1, l8_2] at h; exact h
def G8 (call : CL) (n : Nat) (m0 : Mem) (Q8_3 : Y2) (y0 y1 : AV) (m : Mem) : Rho :=
  boxK y0 m fun a0 m1 =>
  vK (aFieldAddr 0 1 a0) m1 fun a2 m3 =>
  loadK none a2 m3 fun a4 m5 =>
  vK (aLen m5 1 a4) m5 fun a6 m7 =>
  binK .eql a6 (.int .i64 0) fun a8 =>
  condK a8
  (vK (aFieldAddr 1 1 a0) m7 fun a9 m10 =>
  loadK none a9 m10 fun a11 m12 =>
  retK false false m0 [a11] m12)
  (Q8_3 y1 a0 m7)
theorem g8 (call : CL) (n : Nat) (m0 : Mem) (b8_3 : C) (y0 y1 : AV) (m : Mem) : evK call n (c8 b8_3) [(0, y0), (1, y1)] m (fun e m => endK f8 m0 .nrm e m) (endK f8 m0) = G8 call n m0 (fun x0 x1 m => evK call n b8_3 [(1, x0), (2, x1)] m (fun e m => endK f8 m0 .nrm e m) (endK f8 m0)) y0 y1 m := by kernel_rfl
def S8 (call : CL) (n : Nat) (m0 : Mem) (y0 y1 : AV) : Rho := G8 call n m0 (S8_3 call n m0) y0 y1 { m0 with bad := none }
theorem s8 (call : CL) (n : Nat) (m0 : Mem) (y0 y1 : AV) : bodyK call n f8 [y0, y1] m0 = S8 call n m0 y0 y1 :=
  have h : bodyK call n f8 [y0, y1] m0 = G8 call n m0 (d8_3 call n m0) y0 y1 { m0 with bad := none } := Eq.mp (by kernel_rfl) (g8 call n m0 b8_3 y0 y1 { m0 with bad := none })
  by rw [l8_3] at h; exact h
def F8 : SF := fun call n vs m0 => unc vs fun x0 vs => unc vs fun x1 vs => unz vs (S8 call n m0 x0 x1)
theorem F8_ok {orc : List AV → Mem → Option (AV × Mem)} : SOk 8 { f8 with orc := orc } F8 := by
  intro call n vs m0 ho r h0
  simp only [F8] at h0
  obtain ⟨y0, v0, rfl, h1⟩ := unc_some h0
  obtain ⟨y1, v1, rfl, h2⟩ := unc_some h1
  obtain ⟨rfl, hz⟩ := unz_some h2
  exact bodyK_le ho rfl r (Eq.mp (by kernel_rfl) ((s8 call n m0 y0 y1).trans hz))

-- (resolvent/pos.Func).Holds
def G9_8 (call : CL) (n : Nat) (m0 : Mem) (y0 : AV) (m : Mem) : Rho :=
  vK (aLen m 1 y0) m fun a0 m1 =>
  binK .sub a0 (.int .i64 1) fun a2 =>
  vK (aIndexAddr m1 1 y0 a2) m1 fun a3 m4 =>
  loadK none a3 m4 fun a5 m6 =>
  binK .eql a5 (.int .i64 1) fun a7 =>
  retK false false m0 [a7] m6
theorem g9_8 (call : CL) (n : Nat) (m0 : Mem) (y0 : AV) (m : Mem) : evK call n b9_8 [(6, y0)] m (fun e m => endK f9 m0 .nrm e m) (endK f9 m0) = G9_8 call n m0 y0 m := by kernel_rfl
def k9_8 (call : CL) (n : Nat) (m0 : Mem) : KN := (fun e m => endK f9 m0 .nrm e m)
def x9_8 (call : CL) (n : Nat) (m0 : Mem) : KX := (endK f9 m0)
def S9_8 (call : CL) (n : Nat) (m0 : Mem) (y0 : AV) (m : Mem) : Rho := G9_8 call n m0 y0 m
def d9_8 (call : CL) (n : Nat) (m0 : Mem) (y0 : AV) (m : Mem) : Rho := evK call n b9_8 [(6, y0)] m (k9_8 call n m0) (x9_8 call n m0)
theorem l9_8 {call : CL} {n : Nat} {m0 : Mem} : d9_8 call n m0 = S9_8 call n m0 := by
  funext y0 m
  have h : d9_8 call n m0 y0 m = G9_8 call n m0 y0 m := Eq.mp (by kernel_rfl) (g9_8 call n m0 y0 m)
  exact h
def G9_9 (call : CL) (n : Nat) (m0 : Mem) (Q9_8 : Y1) (y0 y1 : AV) (m : Mem) : Rho :=
  vK (aFieldAddr 0 1 y0) m fun a0 m1 =>
  loadK none a0 m1 fun a2 m3 =>
  vK (aLen m3 1 a2) m3 fun a4 m5 =>
  binK .eql a4 (.int .i64 0) fun a6 =>
  condK a6
  (vK (aFieldAddr 1 1 y0) m5 fun a7 m8 =>
  loadK none a7 m8 fun a9 m10 =>
  retK false false m0 [a9] m10)
  (Q9_8 y1 m5)
theorem g9_9 (call : CL) (n : Nat) (m0 : Mem) (b9_8 : C) (y0 y1 : AV) (m : Mem) : evK call n (c9_9 b9_8) [(2, y0), (6, y1)] m (fun e m => endK f9 m0 .nrm e m) (endK f9 m0) = G9_9 call n m0 (fun x0 m => evK call n b9_8 [(6, x0)] m (fun e m => endK f9 m0 .nrm e m) (endK f9 m0)) y0 y1 m := by kernel_rfl
def k9_9 (call : CL) (n : Nat) (m0 : Mem) : KN := (fun e m => endK f9 m0 .nrm e m)
def x9_9 (call : CL) (n : Nat) (m0 : Mem) : KX := (endK f9 m0)
def S9_9 (call : CL) (n : Nat) (m0 : Mem) (y0 y1 : AV) (m : Mem) : Rho := G9_9 call n m0 (S9_8 call n m0) y0 y1 m
def d9_9 (call : CL) (n : Nat) (m0 : Mem) (y0 y1 : AV) (m : Mem) : Rho := evK call n b9_9 [(2, y0), (6, y1)] m (k9_9 call n m0) (x9_9 call n m0)
theorem l9_9 {call : CL} {n : Nat} {m0 : Mem} : d9_9 call n m0 = S9_9 call n m0 := by
  funext y0 y1 m
  have h : d9_9 call n m0 y0 y1 m = G9_9 call n m0 (d9_8 call n m0) y0 y1 m := Eq.mp (by kernel_rfl) (g9_9 call n m0 b9_8 y0 y1 m)
  rw [l9_8] at h; exact h
def G9_5 (call : CL) (n : Nat) (kn : KN) (kx : KX) (y0 y1 y2 y3 y4 y5 y6 : AV) (m : Mem) : Rho :=
  binK .add y6 (.int .i64 1) fun a0 =>
  kn [(1, y0), (2, y1), (5, y2), (6, y3), (17, y4), (18, y5), (19, a0)] m
theorem g9_5 (call : CL) (n : Nat) (kn : KN) (kx : KX) (y0 y1 y2 y3 y4 y5 y6 : AV) (m : Mem) : evK call n b9_5 [(1, y0), (2, y1), (5, y2), (6, y3), (17, y4), (18, y5), (19, y6)] m kn kx = G9_5 call n kn kx y0 y1 y2 y3 y4 y5 y6 m := by kernel_rfl
def k9_5 (call : CL) (n : Nat) (kn : KN) (kx : KX) : KN := kn
def x9_5 (call : CL) (n : Nat) (kn : KN) (kx : KX) : KX := kx
def S9_5 (call : CL) (n : Nat) (kn : KN) (kx : KX) (y0 y1 y2 y3 y4 y5 y6 : AV) (m : Mem) : Rho := G9_5 call n kn kx y0 y1 y2 y3 y4 y5 y6 m
def d9_5 (call : CL) (n : Nat) (kn : KN) (kx : KX) (y0 y1 y2 y3 y4 y5 y6 : AV) (m : Mem) : Rho := evK call n b9_5 [(1, y0), (2, y1), (5, y2), (6, y3), (17, y4), (18, y5), (19, y6)] m (k9_5 call n kn kx) (x9_5 call n kn kx)
theorem l9_5 {call : CL} {n : Nat} {kn : KN} {kx : KX} : d9_5 call n kn kx = S9_5 call n kn kx := by
  funext y0 y1 y2 y3 y4 y5 y6 m
  have h : d9_5 call n kn kx y0 y1 y2 y3 y4 y5 y6 m = G9_5 call n kn kx y0 y1 y2 y3 y4 y5 y6 m := Eq.mp (by kernel_rfl) (g9_5 call n kn kx y0 y1 y2 y3 y4 y5 y6 m)
  exact h
def G9_3 (call : CL) (n : Nat) (kn : KN) (kx : KX) (Q9_5 : Y7) (y0 y1 y2 y3 y4 y5 y6 y7 y8 : AV) (m : Mem) : Rho :=
  vK (aFieldAddr 2 1 y4) m fun a0 m1 =>
  loadK none a0 m1 fun a2 m3 =>
  vK (aIndexAddr m3 1 y3 a2) m3 fun a4 m5 =>
  loadK none a4 m5 fun a6 m7 =>
  callK call (.func 27 [] []) false [y2, y5, a6, (.func 29 [] [])] m7 fun a8 m9 =>
  callK call (.func 30 [] []) false [y2, y5] m9 fun a10 m11 =>
  vK (aFieldAddr 1 1 y4) m11 fun a12 m13 =>
  loadK none a12 m13 fun a14 m15 =>
  vK (aIndexAddr m15 1 y3 a14) m15 fun a16 m17 =>
  loadK none a16 m17 fun a18 m19 =>
  callK call (.func 27 [] []) false [y2, a10, a18, (.func 29 [] [])] m19 fun a20 m21 =>
  cond (stayK [m9, m11, m21] [(fun m => m.load none a12, a14, 0, 2, true), (fun m => m.load none a16, a18, 0, 2, true)]) (callK call (.func 27 [] []) false [y2, a8, a20, (.func 31 [] [])] m21 fun a22 m23 =>
  buildSliceK 1 [(.int .i64 0)] 1 false [(0 * 1, 1, AV.untag a22)] m23 fun a24 m25 =>
  appendK 1 8 0 y3 a24 m25 fun a26 m27 =>
  Q9_5 y0 y1 y2 a26 y6 y7 y8 m27) none
theorem g9_3 (call : CL) (n : Nat) (kn : KN) (kx : KX) (b9_5 : C) (k9_5 : KN) (x9_5 : KX) (y0 y1 y2 y3 y4 y5 y6 y7 y8 : AV) (m : Mem) : evK call n b9_3 [(1, y0), (2, y1), (5, y2), (6, y3), (8, y4), (9, y5), (17, y6), (18, y7), (19, y8)] m (jn call n [1, 2, 5, 6, 17, 18, 19] b9_5 k9_5 x9_5) (blkK 1 (jn call n [1, 2, 5, 6, 17, 18, 19] b9_5 k9_5 x9_5) kx) = G9_3 call n kn kx (fun x0 x1 x2 x3 x4 x5 x6 m => evK call n b9_5 [(1, x0), (2, x1), (5, x2), (6, x3), (17, x4), (18, x5), (19, x6)] m k9_5 x9_5) y0 y1 y2 y3 y4 y5 y6 y7 y8 m := by kernel_rfl
def k9_3 (call : CL) (n : Nat) (kn : KN) (kx : KX) : KN := (jn call n [1, 2, 5, 6, 17, 18, 19] b9_5 (k9_5 call n kn kx) (x9_5 call n kn kx))
def x9_3 (call : CL) (n : Nat) (kn : KN) (kx : KX) : KX := (blkK 1 (jn call n [1, 2, 5, 6, 17, 18, 19] b9_5 (k9_5 call n kn kx) (x9_5 call n kn kx)) kx)
def S9_3 (call : CL) (n : Nat) (kn : KN) (kx : KX) (y0 y1 y2 y3 y4 y5 y6 y7 y8 : AV) (m : Mem) : Rho := G9_3 call n kn kx (S9_5 call n kn kx) y0 y1 y2 y3 y4 y5 y6 y7 y8 m
def d9_3 (call : CL) (n : Nat) (kn : KN) (kx : KX) (y0 y1 y2 y3 y4 y5 y6 y7 y8 : AV) (m : Mem) : Rho := evK call n b9_3 [(1, y0), (2, y1), (5, y2), (6, y3), (8, y4), (9, y5), (17, y6), (18, y7), (19, y8)] m (k9_3 call n kn kx) (x9_3 call n kn kx)
theorem l9_3 {call : CL} {n : Nat} {kn : KN} {kx : KX} : d9_3 call n kn kx = S9_3 call n kn kx := by
  funext y0 y1 y2 y3 y4 y5 y6 y7 y8 m
  have h : d9_3 call n kn kx y0 y1 y2 y3 y4 y5 y6 y7 y8 m = G9_3 call n kn kx (d9_5 call n kn kx) y0 y1 y2 y3 y4 y5 y6 y7 y8 m := Eq.mp (by kernel_rfl) (g9_3 call n kn kx b9_5 (k9_5 call n kn kx) (x9_5 call n kn kx) y0 y1 y2 y3 y4 y5 y6 y7 y8 m)
  rw [l9_5] at h; exact h
def G9_0 (call : CL) (n : Nat) (kn : KN) (kx : KX) (y0 y1 y2 y3 y4 y5 y6 y7 y8 y9 y10 y11 : AV) (m : Mem) : Rho :=
  vK (aIndexAddr m 1 y9 y11) m fun a0 m1 =>
  loadK none a0 m1 fun a2 m3 =>
  callK call (.func 14 [] []) false [a2] m3 fun a4 m5 =>
  callK call (.func 28 [] []) false [y2, a4] m5 fun a6 m7 =>
  callK call (.func 27 [] []) false [y2, y5, a6, (.func 29 [] [])] m7 fun a8 m9 =>
  binK .add y11 (.int .i64 1) fun a10 =>
  kn [(1, y0), (2, y1), (5, y2), (6, y3), (8, y4), (9, a8), (17, y6), (18, y7), (19, y8), (32, y9), (33, y10), (34, a10)] m9
theorem g9_0 (call : CL) (n : Nat) (kn : KN) (kx : KX) (y0 y1 y2 y3 y4 y5 y6 y7 y8 y9 y10 y11 : AV) (m : Mem) : evK call n b9_0 [(1, y0), (2, y1), (5, y2), (6, y3), (8, y4), (9, y5), (17, y6), (18, y7), (19, y8), (32, y9), (33, y10), (34, y11)] m kn kx = G9_0 call n kn kx y0 y1 y2 y3 y4 y5 y6 y7 y8 y9 y10 y11 m := by kernel_rfl
def k9_0 (call : CL) (n : Nat) (kn : KN) (kx : KX) : KN := kn
def x9_0 (call : CL) (n : Nat) (kn : KN) (kx : KX) : KX := kx
def S9_0 (call : CL) (n : Nat) (kn : KN) (kx : KX) (y0 y1 y2 y3 y4 y5 y6 y7 y8 y9 y10 y11 : AV) (m : Mem) : Rho := G9_0 call n kn kx y0 y1 y2 y3 y4 y5 y6 y7 y8 y9 y10 y11 m
def d9_0 (call : CL) (n : Nat) (kn : KN) (kx : KX) (y0 y1 y2 y3 y4 y5 y6 y7 y8 y9 y10 y11 : AV) (m : Mem) : Rho := evK call n b9_0 [(1, y0), (2, y1), (5, y2), (6, y3), (8, y4), (9, y5), (17, y6), (18, y7), (19, y8), (32, y9), (33, y10), (34, y11)] m (k9_0 call n kn kx) (x9_0 call n kn kx)
theorem l9_0 {call : CL} {n : Nat} {kn : KN} {kx : KX} : d9_0 call n kn kx = S9_0 call n kn kx := by
  funext y0 y1 y2 y3 y4 y5 y6 y7 y8 y9 y10 y11 m
  have h : d9_0 call n kn kx y0 y1 y2 y3 y4 y5 y6 y7 y8 y9 y10 y11 m = G9_0 call n kn kx y0 y1 y2 y3 y4 y5 y6 y7 y8 y9 y10 y11 m := Eq.mp (by kernel_rfl) (g9_0 call n kn kx y0 y1 y2 y3 y4 y5 y6 y7 y8 y9 y10 y11 m)
  exact h
def G9_1 (call : CL) (n : Nat) (kn : KN) (kx : KX) (Q9_0 : Y12) (y0 y1 y2 y3 y4 y5 y6 y7 y8 y9 y10 y11 : AV) (m : Mem) : Rho :=
  binK .lss y11 y10 fun a0 =>
  condK a0
  (Q9_0 y0 y1 y2 y3 y4 y5 y6 y7 y8 y9 y10 y11 m)
  (kx (.ext 2) [(1, y0), (2, y1), (5, y2), (6, y3), (8, y4), (9, y5), (17, y6), (18, y7), (19, y8), (32, y9), (33, y10), (34, y11), (35, a0)] m)
theorem g9_1 (call : CL) (n : Nat) (kn : KN) (kx : KX) (b9_0 : C) (y0 y1 y2 y3 y4 y5 y6 y7 y8 y9 y10 y11 : AV) (m : Mem) : evK call n (c9_1 b9_0) [(1, y0), (2, y1), (5, y2), (6, y3), (8, y4), (9, y5), (17, y6), (18, y7), (19, y8), (32, y9), (33, y10), (34, y11)] m kn kx = G9_1 call n kn kx (fun x0 x1 x2 x3 x4 x5 x6 x7 x8 x9 x10 x11 m => evK call n b9_0 [(1, x0), (2, x1), (5, x2), (6, x3), (8, x4), (9, x5), (17, x6), (18, x7), (19, x8), (32, x9), (33, x10), (34, x11)] m kn kx) y0 y1 y2 y3 y4 y5 y6 y7 y8 y9 y10 y11 m := by kernel_rfl
def S9_1 (call : CL) (n : Nat) (kn : KN) (kx : KX) (y0 y1 y2 y3 y4 y5 y6 y7 y8 y9 y10 y11 : AV) (m : Mem) : Rho := G9_1 call n kn kx (S9_0 call n kn kx) y0 y1 y2 y3 y4 y5 y6 y7 y8 y9 y10 y11 m
def d9_1 (call : CL) (n : Nat) (kn : KN) (kx : KX) (y0 y1 y2 y3 y4 y5 y6 y7 y8 y9 y10 y11 : AV) (m : Mem) : Rho := evK call n b9_1 [(1, y0), (2, y1), (5, y2), (6, y3), (8, y4), (9, y5), (17, y6), (18, y7), (19, y8), (32, y9), (33, y10), (34, y11)] m kn kx
theorem l9_1 {call : CL} {n : Nat} : d9_1 call n = S9_1 call n := by
  funext kn kx y0 y1 y2 y3 y4 y5 y6 y7 y8 y9 y10 y11 m
  have h : d9_1 call n kn kx y0 y1 y2 y3 y4 y5 y6 y7 y8 y9 y10 y11 m = G9_1 call n kn kx (d9_0 call n kn kx) y0 y1 y2 y3 y4 y5 y6 y7 y8 y9 y10 y11 m := Eq.mp (by kernel_rfl) (g9_1 call n kn kx b9_0 y0 y1 y2 y3 y4 y5 y6 y7 y8 y9 y10 y11 m)
  rw [l9_0] at h; exact h
def G9_4 (call : CL) (n : Nat) (kn : KN) (kx : KX) (B9_1 : KN → KX → Y12) (Q9_3 : Y9) (Q9_5 : Y7) (y0 y1 y2 y3 y4 y5 y6 y7 : AV) (m : Mem) : Rho :=
  vK (aFieldAddr 0 1 y4) m fun a0 m1 =>
  loadK none a0 m1 fun a2 m3 =>
  vK (aIndexAddr m3 1 y0 a2) m3 fun a4 m5 =>
  loadK none a4 m5 fun a6 m7 =>
  vK (aLen m7 1 a6) m7 fun a8 m9 =>
  loopV [1, 2, 5, 6, 8, 9, 17, 18, 19, 32, 33, 34] none (fun vs m kn kx => unc vs fun x0 vs => unc vs fun x1 vs => unc vs fun x2 vs => unc vs fun x3 vs => unc vs fun x4 vs => unc vs fun x5 vs => unc vs fun x6 vs => unc vs fun x7 vs => unc vs fun x8 vs => unc vs fun x9 vs => unc vs fun x10 vs => unc vs fun x11 vs => unz vs (B9_1 kn kx x0 x1 x2 x3 x4 x5 x6 x7 x8 x9 x10 x11 m)) (blkK 2 (fun e m => keepK e [1, 2, 5, 6, 8, 9, 17, 18, 19] fun vs => unc vs fun x0 vs => unc vs fun x1 vs => unc vs fun x2 vs => unc vs fun x3 vs => unc vs fun x4 vs => unc vs fun x5 vs => unc vs fun x6 vs => unc vs fun x7 vs => unc vs fun x8 vs => unz vs (Q9_3 x0 x1 x2 x3 x4 x5 x6 x7 x8 m)) (blkK 1 (fun e m => keepK e [1, 2, 5, 6, 17, 18, 19] fun vs => unc vs fun x0 vs => unc vs fun x1 vs => unc vs fun x2 vs => unc vs fun x3 vs => unc vs fun x4 vs => unc vs fun x5 vs => unc vs fun x6 vs => unz vs (Q9_5 x0 x1 x2 x3 x4 x5 x6 m)) kx)) n [y0, y1, y2, y3, y4, (.int .i64 1), y5, y6, y7, a6, a8, (.int .i64 0)] m9
theorem g9_4 (call : CL) (n : Nat) (kn : KN) (kx : KX) (b9_1 : C) (b9_3 : C) (b9_5 : C) (k9_5 : KN) (x9_5 : KX) (y0 y1 y2 y3 y4 y5 y6 y7 : AV) (m : Mem) : evK call n (c9_4 b9_1 b9_3) [(1, y0), (2, y1), (5, y2), (6, y3), (8, y4), (17, y5), (18, y6), (19, y7)] m (jn call n [1, 2, 5, 6, 17, 18, 19] b9_5 k9_5 x9_5) (blkK 1 (jn call n [1, 2, 5, 6, 17, 18, 19] b9_5 k9_5 x9_5) kx) = G9_4 call n kn kx (fun kn kx x0 x1 x2 x3 x4 x5 x6 x7 x8 x9 x10 x11 m => evK call n b9_1 [(1, x0), (2, x1), (5, x2), (6, x3), (8, x4), (9, x5), (17, x6), (18, x7), (19, x8), (32, x9), (33, x10), (34, x11)] m kn kx) (fun x0 x1 x2 x3 x4 x5 x6 x7 x8 m => evK call n b9_3 [(1, x0), (2, x1), (5, x2), (6, x3), (8, x4), (9, x5), (17, x6), (18, x7), (19, x8)] m (jn call n [1, 2, 5, 6, 17, 18, 19] b9_5 k9_5 x9_5) (blkK 1 (jn call n [1, 2, 5, 6, 17, 18, 19] b9_5 k9_5 x9_5) kx)) (fun x0 x1 x2 x3 x4 x5 x6 m => evK call n b9_5 [(1, x0), (2, x1), (5, x2), (6, x3), (17, x4), (18, x5), (19, x6)] m k9_5 x9_5) y0 y1 y2 y3 y4 y5 y6 y7 m := by kernel_rfl
def k9_4 (call : CL) (n : Nat) (kn : KN) (kx : KX) : KN := (jn call n [1, 2, 5, 6, 17, 18, 19] b9_5 (k9_5 call n kn kx) (x9_5 call n kn kx))
def x9_4 (call : CL) (n : Nat) (kn : KN) (kx : KX) : KX := (blkK 1 (jn call n [1, 2, 5, 6, 17, 18, 19] b9_5 (k9_5 call n kn kx) (x9_5 call n kn kx)) kx)
def S9_4 (call : CL) (n : Nat) (kn : KN) (kx : KX) (y0 y1 y2 y3 y4 y5 y6 y7 : AV) (m : Mem) : Rho := G9_4 call n kn kx (S9_1 call n) (S9_3 call n kn kx) (S9_5 call n kn kx) y0 y1 y2 y3 y4 y5 y6 y7 m
def d9_4 (call : CL) (n : Nat) (kn : KN) (kx : KX) (y0 y1 y2 y3 y4 y5 y6 y7 : AV) (m : Mem) : Rho := evK call n b9_4 [(1, y0), (2, y1), (5, y2), (6, y3), (8, y4), (17, y5), (18, y6), (19, y7)] m (k9_4 call n kn kx) (x9_4 call n kn kx)
theorem l9_4 {call : CL} {n : Nat} {kn : KN} {kx : KX} : d9_4 call n kn kx = S9_4 call n kn kx := by
  funext y0 y1 y2 y3 y4 y5 y6 y7 m
  have h : d9_4 call n kn kx y0 y1 y2 y3 y4 y5 y6 y7 m = G9_4 call n kn kx (d9_1 call n) (d9_3 call n kn kx) (d9_5 call n kn kx) y0 y1 y2 y3 y4 y5 y6 y7 m := Eq.mp (by kernel_rfl) (g9_4 call n kn kx b9_1 b9_3 b9_5 (k9_5 call n kn kx) (x9_5 call n kn kx) y0 y1 y2 y3 y4 y5 y6 y7 m)
  rw [l9_1, l9_3, l9_5] at h; exact h
def G9_6 (call : CL) (n : Nat) (kn : KN) (kx : KX) (Q9_4 : Y8) (y0 y1 y2 y3 y4 y5 y6 : AV) (m : Mem) : Rho :=
  vK (aIndexAddr m 3 y4 y6) m fun a0 m1 =>
  loadK (some 3) a0 m1 fun a2 m3 =>
  newK [(.int .i64 0), (.int .i64 0), (.int .i64 0)] m3 fun a4 m5 =>
  storeK 3 a4 a2 m5 fun a6 m7 =>
  vK (aFieldAddr 0 1 a4) m7 fun a8 m9 =>
  loadK none a8 m9 fun a10 m11 =>
  vK (aLen m11 1 y0) m11 fun a12 m13 =>
  binK .geq a10 a12 fun a14 =>
  condK a14
  (kx .ret [(4, (.bool false))] m13)
  (Q9_4 y0 y1 y2 y3 a4 y4 y5 y6 m13)
theorem g9_6 (call : CL) (n : Nat) (kn : KN) (kx : KX) (b9_4 : C) (b9_5 : C) (y0 y1 y2 y3 y4 y5 y6 : AV) (m : Mem) : evK call n (c9_6 b9_4 b9_5) [(1, y0), (2, y1), (5, y2), (6, y3), (17, y4), (18, y5), (19, y6)] m kn kx = G9_6 call n kn kx (fun x0 x1 x2 x3 x4 x5 x6 x7 m => evK call n b9_4 [(1, x0), (2, x1), (5, x2), (6, x3), (8, x4), (17, x5), (18, x6), (19, x7)] m (jn call n [1, 2, 5, 6, 17, 18, 19] b9_5 kn kx) (blkK 1 (jn call n [1, 2, 5, 6, 17, 18, 19] b9_5 kn kx) kx)) y0 y1 y2 y3 y4 y5 y6 m := by kernel_rfl
def k9_6 (call : CL) (n : Nat) (kn : KN) (kx : KX) : KN := kn
def x9_6 (call : CL) (n : Nat) (kn : KN) (kx : KX) : KX := kx
def S9_6 (call : CL) (n : Nat) (kn : KN) (kx : KX) (y0 y1 y2 y3 y4 y5 y6 : AV) (m : Mem) : Rho := G9_6 call n kn kx (S9_4 call n kn kx) y0 y1 y2 y3 y4 y5 y6 m
def d9_6 (call : CL) (n : Nat) (kn : KN) (kx : KX) (y0 y1 y2 y3 y4 y5 y6 : AV) (m : Mem) : Rho := evK call n b9_6 [(1, y0), (2, y1), (5, y2), (6, y3), (17, y4), (18, y5), (19, y6)] m (k9_6 call n kn kx) (x9_6 call n kn kx)
theorem l9_6 {call : CL} {n : Nat} {kn : KN} {kx : KX} : d9_6 call n kn kx = S9_6 call n kn kx := by
  funext y0 y1 y2 y3 y4 y5 y6 m
  have h : d9_6 call n kn kx y0 y1 y2 y3 y4 y5 y6 m = G9_6 call n kn kx (d9_4 call n kn kx) y0 y1 y2 y3 y4 y5 y6 m := Eq.mp (by kernel_rfl) (g9_6 call n kn kx b9_4 b9_5 y0 y1 y2 y3 y4 y5 y6 m)
  rw [l9_4] at h; exact h
def G9_7 (call : CL) (n : Nat) (kn : KN) (kx : KX) (Q9_6 : Y7) (y0 y1 y2 y3 y4 y5 y6 : AV) (m : Mem) : Rho :=
  binK .lss y6 y5 fun a0 =>
  condK a0
  (Q9_6 y0 y1 y2 y3 y4 y5 y6 m)
  (kx (.ext 0) [(1, y0), (2, y1), (5, y2), (6, y3), (17, y4), (18, y5), (19, y6), (20, a0)] m)
theorem g9_7 (call : CL) (n : Nat) (kn : KN) (kx : KX) (b9_6 : C) (y0 y1 y2 y3 y4 y5 y6 : AV) (m : Mem) : evK call n (c9_7 b9_6) [(1, y0), (2, y1), (5, y2), (6, y3), (17, y4), (18, y5), (19, y6)] m kn kx = G9_7 call n kn kx (fun x0 x1 x2 x3 x4 x5 x6 m => evK call n b9_6 [(1, x0), (2, x1), (5, x2), (6, x3), (17, x4), (18, x5), (19, x6)] m kn kx) y0 y1 y2 y3 y4 y5 y6 m := by kernel_rfl
def S9_7 (call : CL) (n : Nat) (kn : KN) (kx : KX) (y0 y1 y2 y3 y4 y5 y6 : AV) (m : Mem) : Rho := G9_7 call n kn kx (S9_6 call n kn kx) y0 y1 y2 y3 y4 y5 y6 m
def d9_7 (call : CL) (n : Nat) (kn : KN) (kx : KX) (y0 y1 y2 y3 y4 y5 y6 : AV) (m : Mem) : Rho := evK call n b9_7 [(1, y0), (2, y1), (5, y2), (6, y3), (17, y4), (18, y5), (19, y6)] m kn kx
theorem l9_7 {call : CL} {n : Nat} : d9_7 call n = S9_7 call n := by
  funext kn kx y0 y1 y2 y3 y4 y5 y6 m
  have h : d9_7 call n kn kx y0 y1 y2 y3 y4 y5 y6 m = G9_7 call n kn kx (d9_6 call n kn kx) y0 y1 y2 y3 y4 y5 y6 m := Eq.mp (by kernel_rfl) (g9_7 call n kn kx b9_6 y0 y1 y2 y3 y4 y5 y6 m)
  rw [l9_6] at h; exact h
def G9 (call : CL) (n : Nat) (m0 : Mem) (B9_7 : KN → KX → Y7) (Q9_9 : Y2) (y0 y1 : AV) (m : Mem) : Rho :=
  boxK y0 m fun a0 m1 =>
  callK call (.func 26 [] []) false [] m1 fun a2 m3 =>
  buildSliceK 1 [(.int .i64 0)] 2 false [(0 * 1, 1, AV.untag (.int .i64 0)), (1 * 1, 1, AV.untag (.int .i64 1))] m3 fun a4 m5 =>
  vK (aFieldAddr 0 1 a0) m5 fun a6 m7 =>
  loadK none a6 m7 fun a8 m9 =>
  vK (aLen m9 1 a8) m9 fun a10 m11 =>
  loopV [1, 2, 5, 6, 17, 18, 19] none (fun vs m kn kx => unc vs fun x0 vs => unc vs fun x1 vs => unc vs fun x2 vs => unc vs fun x3 vs => unc vs fun x4 vs => unc vs fun x5 vs => unc vs fun x6 vs => unz vs (B9_7 kn kx x0 x1 x2 x3 x4 x5 x6 m)) (blkK 0 (fun e m => keepK e [2, 6] fun vs => unc vs fun x0 vs => unc vs fun x1 vs => unz vs (Q9_9 x0 x1 m)) (endK f9 m0)) n [y1, a0, a2, a4, a8, a10, (.int .i64 0)] m11
theorem g9 (call : CL) (n : Nat) (m0 : Mem) (b9_7 : C) (b9_9 : C) (y0 y1 : AV) (m : Mem) : evK call n (c9 b9_7 b9_9) [(0, y0), (1, y1)] m (fun e m => endK f9 m0 .nrm e m) (endK f9 m0) = G9 call n m0 (fun kn kx x0 x1 x2 x3 x4 x5 x6 m => evK call n b9_7 [(1, x0), (2, x1), (5, x2), (6, x3), (17, x4), (18, x5), (19, x6)] m kn kx) (fun x0 x1 m => evK call n b9_9 [(2, x0), (6, x1)] m (fun e m => endK f9 m0 .nrm e m) (endK f9 m0)) y0 y1 m := by kernel_rfl
def S9 (call : CL) (n : Nat) (m0 : Mem) (y0 y1 : AV) : Rho := G9 call n m0 (S9_7 call n) (S9_9 call n m0) y0 y1 { m0 with bad := none }
theorem s9 (call : CL) (n : Nat) (m0 : Mem) (y0 y1 : AV) : bodyK call n f9 [y0, y1] m0 = S9 call n m0 y0 y1 :=
  have h : bodyK call n f9 [y0, y1] m0 = G9 call n m0 (d9_7 call n) (d9_9 call n m0) y0 y1 { m0 with bad := none } := Eq.mp (by kernel_rfl) (g9 call n m0 b9_7 b9_9 y0 y1 { m0 with bad := none })
  by rw [l9_7, l9_9] at h; exact h
def F9 : SF := fun call n vs m0 => unc vs fun x0 vs => unc vs fun x1 vs => unz vs (S9 call n m0 x0 x1)
theorem F9_ok {orc : List AV → Mem → Option (AV × Mem)} : SOk 9 { f9 with orc := orc } F9 := by
  intro call n vs m0 ho r h0
  simp only [F9] at h0
  obtain ⟨y0, v0, rfl, h1⟩ := unc_some h0
  obtain ⟨y1, v1, rfl, h2⟩ := unc_some h1
  obtain ⟨rfl, hz⟩ := unz_some h2
  exact bodyK_le ho rfl r (Eq.mp (by kernel_rfl) ((s9 call n m0 y0 y1).trans hz))

-- (resolvent/pos.Func).Text
def G10_3 (call : CL) (n : Nat) (m0 : Mem) (y0 : AV) (m : Mem) : Rho :=
  retK false false m0 [y0] m
theorem g10_3 (call : CL) (n : Nat) (m0 : Mem) (y0 : AV) (m : Mem) : evK call n b10_3 [(3, y0)] m (fun e m => endK f10 m0 .nrm e m) (endK f10 m0) = G10_3 call n m0 y0 m := by kernel_rfl
def k10_3 (call : CL) (n : Nat) (m0 : Mem) : KN := (fun e m => endK f10 m0 .nrm e m)
def x10_3 (call : CL) (n : Nat) (m0 : Mem) : KX := (endK f10 m0)
def S10_3 (call : CL) (n : Nat) (m0 : Mem) (y0 : AV) (m : Mem) : Rho := G10_3 call n m0 y0 m
def d10_3 (call : CL) (n : Nat) (m0 : Mem) (y0 : AV) (m : Mem) : Rho := evK call n b10_3 [(3, y0)] m (k10_3 call n m0) (x10_3 call n m0)
theorem l10_3 {call : CL} {n : Nat} {m0 : Mem} : d10_3 call n m0 = S10_3 call n m0 := by
  funext y0 m
  have h : d10_3 call n m0 y0 m = G10_3 call n m0 y0 m := Eq.mp (by kernel_rfl) (g10_3 call n m0 y0 m)
  exact h
def G10_1 (call : CL) (n : Nat) (kn : KN) (kx : KX) (y0 y1 y2 y3 : AV) (m : Mem) : Rho :=
  vK (aIndexAddr m 3 y1 y3) m fun a0 m1 =>
  loadK (some 3) a0 m1 fun a2 m3 =>
  newK [(.int .i64 0), (.int .i64 0), (.int .i64 0)] m3 fun a4 m5 =>
  storeK 3 a4 a2 m5 fun a6 m7 =>
  vK (aFieldAddr 0 1 a4) m7 fun a8 m9 =>
  loadK none a8 m9 fun a10 m11 =>
  callK call (.func 33 [] []) false [a10] m11 fun a12 m13 =>
  binK .add a12 (.str ⟨#[58]⟩) fun a14 =>
  vK (aFieldAddr 1 1 a4) m13 fun a15 m16 =>
  loadK none a15 m16 fun a17 m18 =>
  callK call (.func 33 [] []) false [a17] m18 fun a19 m20 =>
  binK .add a14 a19 fun a21 =>
  binK .add a21 (.str ⟨#[58]⟩) fun a22 =>
  vK (aFieldAddr 2 1 a4) m20 fun a23 m24 =>
  loadK none a23 m24 fun a25 m26 =>
  callK call (.func 33 [] []) false [a25] m26 fun a27 m28 =>
  binK .add a22 a27 fun a29 =>
  binK .add a29 (.str ⟨#[59]⟩) fun a30 =>
  binK .add y0 a30 fun a31 =>
  cond (stayK [m7, m13, m20, m28] [(fun m => m.load none a15, a17, 0, 2, true), (fun m => m.load none a23, a25, 0, 3, true)]) (binK .add y3 (.int .i64 1) fun a32 =>
  kn [(3, a31), (14, y1), (15, y2), (16, a32)] m28) none
theorem g10_1 (call : CL) (n : Nat) (kn : KN) (kx : KX) (y0 y1 y2 y3 : AV) (m : Mem) : evK call n b10_1 [(3, y0), (14, y1), (15, y2), (16, y3)] m kn kx = G10_1 call n kn kx y0 y1 y2 y3 m := by kernel_rfl
def k10_1 (call : CL) (n : Nat) (kn : KN) (kx : KX) : KN := kn
def x10_1 (call : CL) (n : Nat) (kn : KN) (kx : KX) : KX := kx
def S10_1 (call : CL) (n : Nat) (kn : KN) (kx : KX) (y0 y1 y2 y3 : AV) (m : Mem) : Rho := G10_1 call n kn kx y0 y1 y2 y3 m
def d10_1 (call : CL) (n : Nat) (kn : KN) (kx : KX) (y0 y1 y2 y3 : AV) (m : Mem) : Rho := evK call n b10_1 [(3, y0), (14, y1), (15, y2), (16, y3)] m (k10_1 call n kn kx) (x10_1 call n kn kx)
theorem l10_1 {call : CL} {n : Nat} {kn : KN} {kx : KX} : d10_1 call n kn kx = S10_1 call n kn kx := by
  funext y0 y1 y2 y3 m
  have h : d10_1 call n kn kx y0 y1 y2 y3 m = G10_1 call n kn kx y0 y1 y2 y3 m := Eq.mp (by kernel_rfl) (g10_1 call n kn kx y0 y1 y2 y3 m)
  exact h
def G10_2 (call : CL) (n : Nat) (kn : KN) (kx : KX) (Q10_1 : Y4) (y0 y1 y2 y3 : AV) (m : Mem) : Rho :=
  binK .lss y3 y2 fun a0 =>
  condK a0
  (Q10_1 y0 y1 y2 y3 m)
  (kx (.ext 0) [(3, y0), (14, y1), (15, y2), (16, y3), (17, a0)] m)
theorem g10_2 (call : CL) (n : Nat) (kn : KN) (kx : KX) (b10_1 : C) (y0 y1 y2 y3 : AV) (m : Mem) : evK call n (c10_2 b10_1) [(3, y0), (14, y1), (15, y2), (16, y3)] m kn kx = G10_2 call n kn kx (fun x0 x1 x2 x3 m => evK call n b10_1 [(3, x0), (14, x1), (15, x2), (16, x3)] m kn kx) y0 y1 y2 y3 m := by kernel_rfl
def S10_2 (call : CL) (n : Nat) (kn : KN) (kx : KX) (y0 y1 y2 y3 : AV) (m : Mem) : Rho := G10_2 call n kn kx (S10_1 call n kn kx) y0 y1 y2 y3 m
def d10_2 (call : CL) (n : Nat) (kn : KN) (kx : KX) (y0 y1 y2 y3 : AV) (m : Mem) : Rho := evK call n b10_2 [(3, y0), (14, y1), (15, y2), (16, y3)] m kn kx
theorem l10_2 {call : CL} {n : Nat} : d10_2 call n = S10_2 call n := by
  funext kn kx y0 y1 y2 y3 m
  have h : d10_2 call n kn kx y0 y1 y2 y3 m = G10_2 call n kn kx (d10_1 call n kn kx) y0 y1 y2 y3 m := Eq.mp (by kernel_rfl) (g10_2 call n kn kx b10_1 y0 y1 y2 y3 m)
  rw [l10_1] at h; exact h
def G10_4 (call : CL) (n : Nat) (m0 : Mem) (B10_2 : KN → KX → Y4) (Q10_3 : Y1) (y0 : AV) (m : Mem) : Rho :=
  vK (aFieldAddr 0 1 y0) m fun a0 m1 =>
  loadK none a0 m1 fun a2 m3 =>
  vK (aLen m3 1 a2) m3 fun a4 m5 =>
  loopV [3, 14, 15, 16] none (fun vs m kn kx => unc vs fun x0 vs => unc vs fun x1 vs => unc vs fun x2 vs => unc vs fun x3 vs => unz vs (B10_2 kn kx x0 x1 x2 x3 m)) (blkK 0 (fun e m => keepK e [3] fun vs => unc vs fun x0 vs => unz vs (Q10_3 x0 m)) (endK f10 m0)) n [(.str ⟨#[]⟩), a2, a4, (.int .i64 0)] m5
theorem g10_4 (call : CL) (n : Nat) (m0 : Mem) (b10_2 : C) (b10_3 : C) (y0 : AV) (m : Mem) : evK call n (c10_4 b10_2 b10_3) [(1, y0)] m (fun e m => endK f10 m0 .nrm e m) (endK f10 m0) = G10_4 call n m0 (fun kn kx x0 x1 x2 x3 m => evK call n b10_2 [(3, x0), (14, x1), (15, x2), (16, x3)] m kn kx) (fun x0 m => evK call n b10_3 [(3, x0)] m (fun e m => endK f10 m0 .nrm e m) (endK f10 m0)) y0 m := by kernel_rfl
def k10_4 (call : CL) (n : Nat) (m0 : Mem) : KN := (fun e m => endK f10 m0 .nrm e m)
def x10_4 (call : CL) (n : Nat) (m0 : Mem) : KX := (endK f10 m0)
def S10_4 (call : CL) (n : Nat) (m0 : Mem) (y0 : AV) (m : Mem) : Rho := G10_4 call n m0 (S10_2 call n) (S10_3 call n m0) y0 m
def d10_4 (call : CL) (n : Nat) (m0 : Mem) (y0 : AV) (m : Mem) : Rho := evK call n b10_4 [(1, y0)] m (k10_4 call n m0) (x10_4 call n m0)
theorem l10_4 {call : CL} {n : Nat} {m0 : Mem} : d10_4 call n m0 = S10_4 call n m0 := by
  funext y0 m
  have h : d10_4 call n m0 y0 m = G10_4 call n m0 (d10_2 call n) (d10_3 call n m0) y0 m := Eq.mp (by kernel_rfl) (g10_4 call n m0 b10_2 b10_3 y0 m)
  rw [l10_2, l10_3] at h; exact h
def G10 (call : CL) (n : Nat) (m0 : Mem) (Q10_4 : Y1) (y0 : AV) (m : Mem) : Rho :=
  boxK y0 m fun a0 m1 =>
  vK (aFieldAddr 0 1 a0) m1 fun a2 m3 =>
  loadK none a2 m3 fun a4 m5 =>
  vK (aLen m5 1 a4) m5 fun a6 m7 =>
  binK .eql a6 (.int .i64 0) fun a8 =>
  condK a8
  (vK (aFieldAddr 1 1 a0) m7 fun a9 m10 =>
  loadK none a9 m10 fun a11 m12 =>
  callK call (.func 32 [] []) false [a11] m12 fun a13 m14 =>
  retK false false m0 [a13] m14)
  (Q10_4 a0 m7)
theorem g10 (call : CL) (n : Nat) (m0 : Mem) (b10_4 : C) (y0 : AV) (m : Mem) : evK call n (c10 b10_4) [(0, y0)] m (fun e m => endK f10 m0 .nrm e m) (endK f10 m0) = G10 call n m0 (fun x0 m => evK call n b10_4 [(1, x0)] m (fun e m => endK f10 m0 .nrm e m) (endK f10 m0)) y0 m := by kernel_rfl
def S10 (call : CL) (n : Nat) (m0 : Mem) (y0 : AV) : Rho := G10 call n m0 (S10_4 call n m0) y0 { m0 with bad := none }
theorem s10 (call : CL) (n : Nat) (m0 : Mem) (y0 : AV) : bodyK call n f10 [y0] m0 = S10 call n m0 y0 :=
  have h : bodyK call n f10 [y0] m0 = G10 call n m0 (d10_4 call n m0) y0 { m0 with bad := none } := Eq.mp (by kernel_rfl) (g10 call n m0 b10_4 y0 { m0 with bad := none })
  by rw [l10_4] at h; exact h
def F10 : SF := fun call n vs m0 => unc vs fun x0 vs => unz vs (S10 call n m0 x0)
theorem F10_ok {orc : List AV → Mem → Option (AV × Mem)} : SOk 10 { f10 with orc := orc } F10 := by
  intro call n vs m0 ho r h0
  simp only [F10] at h0
  obtain ⟨y0, v0, rfl, h1⟩ := unc_some h0
  obtain ⟨rfl, hz⟩ := unz_some h1
  exact bodyK_le ho rfl r (Eq.mp (by kernel_rfl) ((s10 call n m0 y0).trans hz))

-- (resolvent/pos.Func).Same
def G11 (call : CL) (n : Nat) (m0 : Mem) (y0 y1 : AV) (m : Mem) : Rho :=
  boxK y0 m fun a0 m1 =>
  boxK y1 m1 fun a2 m3 =>
  vK (aFieldAddr 1 1 a0) m3 fun a4 m5 =>
  loadK none a4 m5 fun a6 m7 =>
  vK (aFieldAddr 1 1 a2) m7 fun a8 m9 =>
  loadK none a8 m9 fun a10 m11 =>
  eqvK ⟨[.b], false⟩ false a6 a10 fun a12 =>
  gK a12 true (fun k => vK (aFieldAddr 0 1 a0) m11 fun a13 m14 =>
  k a13 m14) m11 fun a15 m16 =>
  gK a12 true (fun k => loadK none a15 m16 fun a17 m18 =>
  k a17 m18) m16 fun a19 m20 =>
  gK a12 true (fun k => vK (aFieldAddr 0 1 a2) m20 fun a21 m22 =>
  k a21 m22) m20 fun a23 m24 =>
  gK a12 true (fun k => loadK none a23 m24 fun a25 m26 =>
  k a25 m26) m24 fun a27 m28 =>
  gK a12 true (fun k => callK call (.func 34 [] []) false [a19, a27] m28 fun a29 m30 =>
  k a29 m30) m28 fun a31 m32 =>
  pickK a12 (some a31) (some (.bool false)) fun a33 =>
  retK false false m0 [a33] m32
theorem g11 (call : CL) (n : Nat) (m0 : Mem) (y0 y1 : AV) (m : Mem) : evK call n b11 [(0, y0), (1, y1)] m (fun e m => endK f11 m0 .nrm e m) (endK f11 m0) = G11 call n m0 y0 y1 m := by kernel_rfl
def S11 (call : CL) (n : Nat) (m0 : Mem) (y0 y1 : AV) : Rho := G11 call n m0 y0 y1 { m0 with bad := none }
theorem s11 (call : CL) (n : Nat) (m0 : Mem) (y0 y1 : AV) : bodyK call n f11 [y0, y1] m0 = S11 call n m0 y0 y1 :=
  have h : bodyK call n f11 [y0, y1] m0 = G11 call n m0 y0 y1 { m0 with bad := none } := Eq.mp (by kernel_rfl) (g11 call n m0 y0 y1 { m0 with bad := none })
  h
def F11 : SF := fun call n vs m0 => unc vs fun x0 vs => unc vs fun x1 vs => unz vs (S11 call n m0 x0 x1)
theorem F11_ok {orc : List AV → Mem → Option (AV × Mem)} : SOk 11 { f11 with orc := orc } F11 := by
  intro call n vs m0 ho r h0
  simp only [F11] at h0
  obtain ⟨y0, v0, rfl, h1⟩ := unc_some h0
  obtain ⟨y1, v1, rfl, h2⟩ := unc_some h1
  obtain ⟨rfl, hz⟩ := unz_some h2
  exact bodyK_le ho rfl r (Eq.mp (by kernel_rfl) ((s11 call n m0 y0 y1).trans hz))

-- resolvent/resolventlaw16.place
def G12 (call : CL) (n : Nat) (m0 : Mem) (y0 y1 : AV) (m : Mem) : Rho :=
  binK .rem y0 y1 fun a0 =>
  binK .add a0 y1 fun a1 =>
  binK .rem a1 y1 fun a2 =>
  retK false false m0 [a2] m
theorem g12 (call : CL) (n : Nat) (m0 : Mem) (y0 y1 : AV) (m : Mem) : evK call n b12 [(0, y0), (1, y1)] m (fun e m => endK f12 m0 .nrm e m) (endK f12 m0) = G12 call n m0 y0 y1 m := by kernel_rfl
def S12 (call : CL) (n : Nat) (m0 : Mem) (y0 y1 : AV) : Rho := G12 call n m0 y0 y1 { m0 with bad := none }
theorem s12 (call : CL) (n : Nat) (m0 : Mem) (y0 y1 : AV) : bodyK call n f12 [y0, y1] m0 = S12 call n m0 y0 y1 :=
  have h : bodyK call n f12 [y0, y1] m0 = G12 call n m0 y0 y1 { m0 with bad := none } := Eq.mp (by kernel_rfl) (g12 call n m0 y0 y1 { m0 with bad := none })
  h
def F12 : SF := fun call n vs m0 => unc vs fun x0 vs => unc vs fun x1 vs => unz vs (S12 call n m0 x0 x1)
theorem F12_ok {orc : List AV → Mem → Option (AV × Mem)} : SOk 12 { f12 with orc := orc } F12 := by
  intro call n vs m0 ho r h0
  simp only [F12] at h0
  obtain ⟨y0, v0, rfl, h1⟩ := unc_some h0
  obtain ⟨y1, v1, rfl, h2⟩ := unc_some h1
  obtain ⟨rfl, hz⟩ := unz_some h2
  exact bodyK_le ho rfl r (Eq.mp (by kernel_rfl) ((s12 call n m0 y0 y1).trans hz))

-- resolvent/pos.Const
def G13 (call : CL) (n : Nat) (m0 : Mem) (y0 : AV) (m : Mem) : Rho :=
  newK [(.list .full 0 []), (.bool false)] m fun a0 m1 =>
  buildK [(.list .full 0 []), (.bool false)] [(1, 1, AV.untag1 y0)] fun a2 =>
  storeK 2 a0 a2 m1 fun a3 m4 =>
  loadK (some 2) a0 m4 fun a5 _ =>
  retK false false m0 [a5] m4
theorem g13 (call : CL) (n : Nat) (m0 : Mem) (y0 : AV) (m : Mem) : evK call n b13 [(0, y0)] m (fun e m => endK f13 m0 .nrm e m) (endK f13 m0) = G13 call n m0 y0 m := by kernel_rfl
def S13 (call : CL) (n : Nat) (m0 : Mem) (y0 : AV) : Rho := G13 call n m0 y0 { m0 with bad := none }
theorem s13 (call : CL) (n : Nat) (m0 : Mem) (y0 : AV) : bodyK call n f13 [y0] m0 = S13 call n m0 y0 :=
  have h : bodyK call n f13 [y0] m0 = G13 call n m0 y0 { m0 with bad := none } := Eq.mp (by kernel_rfl) (g13 call n m0 y0 { m0 with bad := none })
  h
def F13 : SF := fun call n vs m0 => unc vs fun x0 vs => unz vs (S13 call n m0 x0)
theorem F13_ok {orc : List AV → Mem → Option (AV × Mem)} : SOk 13 { f13 with orc := orc } F13 := by
  intro call n vs m0 ho r h0
  simp only [F13] at h0
  obtain ⟨y0, v0, rfl, h1⟩ := unc_some h0
  obtain ⟨rfl, hz⟩ := unz_some h1
  exact bodyK_le ho rfl r (Eq.mp (by kernel_rfl) ((s13 call n m0 y0).trans hz))

-- resolvent/pos.Var
def G14_0 (call : CL) (n : Nat) (m0 : Mem) (y0 y1 : AV) (m : Mem) : Rho :=
  buildK [(.int .i64 0), (.int .i64 0), (.int .i64 0)] [(0, 1, AV.untag1 y0), (1, 1, AV.untag1 (.int .i64 0)), (2, 1, AV.untag1 (.int .i64 1))] fun a0 =>
  buildSliceK 3 [(.int .i64 0), (.int .i64 0), (.int .i64 0)] 1 false [(0 * 3, 3, AV.untag a0)] m fun a1 m2 =>
  buildK [(.list .full 0 []), (.bool false)] [(0, 1, AV.untag1 a1)] fun a3 =>
  storeK 2 y1 a3 m2 fun a4 m5 =>
  loadK (some 2) y1 m5 fun a6 _ =>
  retK false false m0 [a6] m5
theorem g14_0 (call : CL) (n : Nat) (m0 : Mem) (y0 y1 : AV) (m : Mem) : evK call n b14_0 [(0, y0), (2, y1)] m (fun e m => endK f14 m0 .nrm e m) (endK f14 m0) = G14_0 call n m0 y0 y1 m := by kernel_rfl
def k14_0 (call : CL) (n : Nat) (m0 : Mem) : KN := (fun e m => endK f14 m0 .nrm e m)
def x14_0 (call : CL) (n : Nat) (m0 : Mem) : KX := (endK f14 m0)
def S14_0 (call : CL) (n : Nat) (m0 : Mem) (y0 y1 : AV) (m : Mem) : Rho := G14_0 call n m0 y0 y1 m
def d14_0 (call : CL) (n : Nat) (m0 : Mem) (y0 y1 : AV) (m : Mem) : Rho := evK call n b14_0 [(0, y0), (2, y1)] m (k14_0 call n m0) (x14_0 call n m0)
theorem l14_0 {call : CL} {n : Nat} {m0 : Mem} : d14_0 call n m0 = S14_0 call n m0 := by
  funext y0 y1 m
  have h : d14_0 call n m0 y0 y1 m = G14_0 call n m0 y0 y1 m := Eq.mp (by kernel_rfl) (g14_0 call n m0 y0 y1 m)
  exact h
def G14 (call : CL) (n : Nat) (m0 : Mem) (Q14_0 : Y2) (y0 : AV) (m : Mem) : Rho :=
  newK [(.list .full 0 []), (.bool false)] m fun a0 m1 =>
  binK .lss y0 (.int .i64 0) fun a2 =>
  condK a2
  (callK call (.func 13 [] []) false [(.bool true)] m1 fun a3 m4 =>
  storeK 2 a0 a3 m4 fun a5 m6 =>
  loadK (some 2) a0 m6 fun a7 _ =>
  retK false false m0 [a7] m6)
  (Q14_0 y0 a0 m1)
theorem g14 (call : CL) (n : Nat) (m0 : Mem) (b14_0 : C) (y0 : AV) (m : Mem) : evK call n (c14 b14_0) [(0, y0)] m (fun e m => endK f14 m0 .nrm e m) (endK f14 m0) = G14 call n m0 (fun x0 x1 m => evK call n b14_0 [(0, x0), (2, x1)] m (fun e m => endK f14 m0 .nrm e m) (endK f14 m0)) y0 m := by kernel_rfl
def S14 (call : CL) (n : Nat) (m0 : Mem) (y0 : AV) : Rho := G14 call n m0 (S14_0 call n m0) y0 { m0 with bad := none }
theorem s14 (call : CL) (n : Nat) (m0 : Mem) (y0 : AV) : bodyK call n f14 [y0] m0 = S14 call n m0 y0 :=
  have h : bodyK call n f14 [y0] m0 = G14 call n m0 (d14_0 call n m0) y0 { m0 with bad := none } := Eq.mp (by kernel_rfl) (g14 call n m0 b14_0 y0 { m0 with bad := none })
  by rw [l14_0] at h; exact h
def F14 : SF := fun call n vs m0 => unc vs fun x0 vs => unz vs (S14 call n m0 x0)
theorem F14_ok {orc : List AV → Mem → Option (AV × Mem)} : SOk 14 { f14 with orc := orc } F14 := by
  intro call n vs m0 ho r h0
  simp only [F14] at h0
  obtain ⟨y0, v0, rfl, h1⟩ := unc_some h0
  obtain ⟨rfl, hz⟩ := unz_some h1
  exact bodyK_le ho rfl r (Eq.mp (by kernel_rfl) ((s14 call n m0 y0).trans hz))

-- resolvent/pos.Iff
def G15_3 (call : CL) (n : Nat) (m0 : Mem) (y0 y1 y2 y3 y4 : AV) (m : Mem) : Rho :=
  callK call (.func 30 [] []) false [y1, y2] m fun a0 m1 =>
  callK call (.func 27 [] []) false [y1, y4, a0, (.func 29 [] [])] m1 fun a2 m3 =>
  callK call (.func 27 [] []) false [y1, y3, a2, (.func 31 [] [])] m3 fun a4 m5 =>
  callK call (.func 36 [] []) false [y1, a4] m5 fun a6 m7 =>
  storeK 2 y0 a6 m7 fun a8 m9 =>
  loadK (some 2) y0 m9 fun a10 _ =>
  retK false false m0 [a10] m9
theorem g15_3 (call : CL) (n : Nat) (m0 : Mem) (y0 y1 y2 y3 y4 : AV) (m : Mem) : evK call n b15_3 [(4, y0), (5, y1), (6, y2), (11, y3), (12, y4)] m (fun e m => endK f15 m0 .nrm e m) (endK f15 m0) = G15_3 call n m0 y0 y1 y2 y3 y4 m := by kernel_rfl
def k15_3 (call : CL) (n : Nat) (m0 : Mem) : KN := (fun e m => endK f15 m0 .nrm e m)
def x15_3 (call : CL) (n : Nat) (m0 : Mem) : KX := (endK f15 m0)
def S15_3 (call : CL) (n : Nat) (m0 : Mem) (y0 y1 y2 y3 y4 : AV) (m : Mem) : Rho := G15_3 call n m0 y0 y1 y2 y3 y4 m
def d15_3 (call : CL) (n : Nat) (m0 : Mem) (y0 y1 y2 y3 y4 : AV) (m : Mem) : Rho := evK call n b15_3 [(4, y0), (5, y1), (6, y2), (11, y3), (12, y4)] m (k15_3 call n m0) (x15_3 call n m0)
theorem l15_3 {call : CL} {n : Nat} {m0 : Mem} : d15_3 call n m0 = S15_3 call n m0 := by
  funext y0 y1 y2 y3 y4 m
  have h : d15_3 call n m0 y0 y1 y2 y3 y4 m = G15_3 call n m0 y0 y1 y2 y3 y4 m := Eq.mp (by kernel_rfl) (g15_3 call n m0 y0 y1 y2 y3 y4 m)
  exact h
def G15_4 (call : CL) (n : Nat) (m0 : Mem) (Q15_3 : Y5) (y0 y1 y2 y3 y4 : AV) (m : Mem) : Rho :=
  callK call (.func 14 [] []) false [y0] m fun a0 m1 =>
  callK call (.func 28 [] []) false [y3, a0] m1 fun a2 m3 =>
  callK call (.func 25 [] []) false [y1, y0] m3 fun a4 m5 =>
  callK call (.func 27 [] []) false [y3, a2, y4, (.func 29 [] [])] m5 fun a6 m7 =>
  buildK [(.int .i64 0), (.int .i64 0), (.int .i64 0)] [(0, 1, AV.untag1 y0), (1, 1, AV.untag1 (.int .i64 1)), (2, 1, AV.untag1 (.int .i64 0))] fun a8 =>
  callK call (.func 35 [] []) false [y3, a8] m7 fun a9 m10 =>
  condK a4
  (callK call (.func 27 [] []) false [y3, a6, a9, (.func 31 [] [])] m10 fun a11 m12 =>
  callK call (.func 36 [] []) false [y3, a11] m12 fun a13 m14 =>
  storeK 2 y2 a13 m14 fun a15 m16 =>
  loadK (some 2) y2 m16 fun a17 _ =>
  retK false false m0 [a17] m16)
  (Q15_3 y2 y3 y4 a6 a9 m10)
theorem g15_4 (call : CL) (n : Nat) (m0 : Mem) (b15_3 : C) (y0 y1 y2 y3 y4 : AV) (m : Mem) : evK call n (c15_4 b15_3) [(0, y0), (1, y1), (4, y2), (5, y3), (6, y4)] m (fun e m => endK f15 m0 .nrm e m) (endK f15 m0) = G15_4 call n m0 (fun x0 x1 x2 x3 x4 m => evK call n b15_3 [(4, x0), (5, x1), (6, x2), (11, x3), (12, x4)] m (fun e m => endK f15 m0 .nrm e m) (endK f15 m0)) y0 y1 y2 y3 y4 m := by kernel_rfl
def k15_4 (call : CL) (n : Nat) (m0 : Mem) : KN := (fun e m => endK f15 m0 .nrm e m)
def x15_4 (call : CL) (n : Nat) (m0 : Mem) : KX := (endK f15 m0)
def S15_4 (call : CL) (n : Nat) (m0 : Mem) (y0 y1 y2 y3 y4 : AV) (m : Mem) : Rho := G15_4 call n m0 (S15_3 call n m0) y0 y1 y2 y3 y4 m
def d15_4 (call : CL) (n : Nat) (m0 : Mem) (y0 y1 y2 y3 y4 : AV) (m : Mem) : Rho := evK call n b15_4 [(0, y0), (1, y1), (4, y2), (5, y3), (6, y4)] m (k15_4 call n m0) (x15_4 call n m0)
theorem l15_4 {call : CL} {n : Nat} {m0 : Mem} : d15_4 call n m0 = S15_4 call n m0 := by
  funext y0 y1 y2 y3 y4 m
  have h : d15_4 call n m0 y0 y1 y2 y3 y4 m = G15_4 call n m0 (d15_3 call n m0) y0 y1 y2 y3 y4 m := Eq.mp (by kernel_rfl) (g15_4 call n m0 b15_3 y0 y1 y2 y3 y4 m)
  rw [l15_3] at h; exact h
def G15_0 (call : CL) (n : Nat) (kn : KN) (kx : KX) (y0 y1 y2 y3 y4 y5 y6 y7 : AV) (m : Mem) : Rho :=
  binK .add y7 (.int .i64 1) fun a0 =>
  kn [(0, y0), (1, y1), (4, y2), (5, y3), (6, y4), (17, y5), (18, y6), (19, a0)] m
theorem g15_0 (call : CL) (n : Nat) (kn : KN) (kx : KX) (y0 y1 y2 y3 y4 y5 y6 y7 : AV) (m : Mem) : evK call n b15_0 [(0, y0), (1, y1), (4, y2), (5, y3), (6, y4), (17, y5), (18, y6), (19, y7)] m kn kx = G15_0 call n kn kx y0 y1 y2 y3 y4 y5 y6 y7 m := by kernel_rfl
def k15_0 (call : CL) (n : Nat) (kn : KN) (kx : KX) : KN := kn
def x15_0 (call : CL) (n : Nat) (kn : KN) (kx : KX) : KX := kx
def S15_0 (call : CL) (n : Nat) (kn : KN) (kx : KX) (y0 y1 y2 y3 y4 y5 y6 y7 : AV) (m : Mem) : Rho := G15_0 call n kn kx y0 y1 y2 y3 y4 y5 y6 y7 m
def d15_0 (call : CL) (n : Nat) (kn : KN) (kx : KX) (y0 y1 y2 y3 y4 y5 y6 y7 : AV) (m : Mem) : Rho := evK call n b15_0 [(0, y0), (1, y1), (4, y2), (5, y3), (6, y4), (17, y5), (18, y6), (19, y7)] m (k15_0 call n kn kx) (x15_0 call n kn kx)
theorem l15_0 {call : CL} {n : Nat} {kn : KN} {kx : KX} : d15_0 call n kn kx = S15_0 call n kn kx := by
  funext y0 y1 y2 y3 y4 y5 y6 y7 m
  have h : d15_0 call n kn kx y0 y1 y2 y3 y4 y5 y6 y7 m = G15_0 call n kn kx y0 y1 y2 y3 y4 y5 y6 y7 m := Eq.mp (by kernel_rfl) (g15_0 call n kn kx y0 y1 y2 y3 y4 y5 y6 y7 m)
  exact h
def G15_1 (call : CL) (n : Nat) (kn : KN) (kx : KX) (Q15_0 : Y8) (y0 y1 y2 y3 y4 y5 y6 y7 : AV) (m : Mem) : Rho :=
  vK (aIndexAddr m 1 y5 y7) m fun a0 m1 =>
  loadK none a0 m1 fun a2 m3 =>
  binK .neq a2 y0 fun a4 =>
  condK a4
  (callK call (.func 14 [] []) false [a2] m3 fun a5 m6 =>
  callK call (.func 28 [] []) false [y3, a5] m6 fun a7 m8 =>
  callK call (.func 27 [] []) false [y3, y4, a7, (.func 29 [] [])] m8 fun a9 m10 =>
  Q15_0 y0 y1 y2 y3 a9 y5 y6 y7 m10)
  (Q15_0 y0 y1 y2 y3 y4 y5 y6 y7 m3)
theorem g15_1 (call : CL) (n : Nat) (kn : KN) (kx : KX) (b15_0 : C) (y0 y1 y2 y3 y4 y5 y6 y7 : AV) (m : Mem) : evK call n (c15_1 b15_0) [(0, y0), (1, y1), (4, y2), (5, y3), (6, y4), (17, y5), (18, y6), (19, y7)] m kn kx = G15_1 call n kn kx (fun x0 x1 x2 x3 x4 x5 x6 x7 m => evK call n b15_0 [(0, x0), (1, x1), (4, x2), (5, x3), (6, x4), (17, x5), (18, x6), (19, x7)] m kn kx) y0 y1 y2 y3 y4 y5 y6 y7 m := by kernel_rfl
def k15_1 (call : CL) (n : Nat) (kn : KN) (kx : KX) : KN := kn
def x15_1 (call : CL) (n : Nat) (kn : KN) (kx : KX) : KX := kx
def S15_1 (call : CL) (n : Nat) (kn : KN) (kx : KX) (y0 y1 y2 y3 y4 y5 y6 y7 : AV) (m : Mem) : Rho := G15_1 call n kn kx (S15_0 call n kn kx) y0 y1 y2 y3 y4 y5 y6 y7 m
def d15_1 (call : CL) (n : Nat) (kn : KN) (kx : KX) (y0 y1 y2 y3 y4 y5 y6 y7 : AV) (m : Mem) : Rho := evK call n b15_1 [(0, y0), (1, y1), (4, y2), (5, y3), (6, y4), (17, y5), (18, y6), (19, y7)] m (k15_1 call n kn kx) (x15_1 call n kn kx)
theorem l15_1 {call : CL} {n : Nat} {kn : KN} {kx : KX} : d15_1 call n kn kx = S15_1 call n kn kx := by
  funext y0 y1 y2 y3 y4 y5 y6 y7 m
  have h : d15_1 call n kn kx y0 y1 y2 y3 y4 y5 y6 y7 m = G15_1 call n kn kx (d15_0 call n kn kx) y0 y1 y2 y3 y4 y5 y6 y7 m := Eq.mp (by kernel_rfl) (g15_1 call n kn kx b15_0 y0 y1 y2 y3 y4 y5 y6 y7 m)
  rw [l15_0] at h; exact h
def G15_2 (call : CL) (n : Nat) (kn : KN) (kx : KX) (Q15_1 : Y8) (y0 y1 y2 y3 y4 y5 y6 y7 : AV) (m : Mem) : Rho :=
  binK .lss y7 y6 fun a0 =>
  condK a0
  (Q15_1 y0 y1 y2 y3 y4 y5 y6 y7 m)
  (kx (.ext 0) [(0, y0), (1, y1), (4, y2), (5, y3), (6, y4), (17, y5), (18, y6), (19, y7), (20, a0)] m)
theorem g15_2 (call : CL) (n : Nat) (kn : KN) (kx : KX) (b15_1 : C) (y0 y1 y2 y3 y4 y5 y6 y7 : AV) (m : Mem) : evK call n (c15_2 b15_1) [(0, y0), (1, y1), (4, y2), (5, y3), (6, y4), (17, y5), (18, y6), (19, y7)] m kn kx = G15_2 call n kn kx (fun x0 x1 x2 x3 x4 x5 x6 x7 m => evK call n b15_1 [(0, x0), (1, x1), (4, x2), (5, x3), (6, x4), (17, x5), (18, x6), (19, x7)] m kn kx) y0 y1 y2 y3 y4 y5 y6 y7 m := by kernel_rfl
def S15_2 (call : CL) (n : Nat) (kn : KN) (kx : KX) (y0 y1 y2 y3 y4 y5 y6 y7 : AV) (m : Mem) : Rho := G15_2 call n kn kx (S15_1 call n kn kx) y0 y1 y2 y3 y4 y5 y6 y7 m
def d15_2 (call : CL) (n : Nat) (kn : KN) (kx : KX) (y0 y1 y2 y3 y4 y5 y6 y7 : AV) (m : Mem) : Rho := evK call n b15_2 [(0, y0), (1, y1), (4, y2), (5, y3), (6, y4), (17, y5), (18, y6), (19, y7)] m kn kx
theorem l15_2 {call : CL} {n : Nat} : d15_2 call n = S15_2 call n := by
  funext kn kx y0 y1 y2 y3 y4 y5 y6 y7 m
  have h : d15_2 call n kn kx y0 y1 y2 y3 y4 y5 y6 y7 m = G15_2 call n kn kx (d15_1 call n kn kx) y0 y1 y2 y3 y4 y5 y6 y7 m := Eq.mp (by kernel_rfl) (g15_2 call n kn kx b15_1 y0 y1 y2 y3 y4 y5 y6 y7 m)
  rw [l15_1] at h; exact h
def G15_5 (call : CL) (n : Nat) (m0 : Mem) (B15_2 : KN → KX → Y8) (Q15_4 : Y5) (y0 y1 y2 : AV) (m : Mem) : Rho :=
  callK call (.func 26 [] []) false [] m fun a0 m1 =>
  vK (aLen m1 1 y1) m1 fun a2 m3 =>
  loopV [0, 1, 4, 5, 6, 17, 18, 19] none (fun vs m kn kx => unc vs fun x0 vs => unc vs fun x1 vs => unc vs fun x2 vs => unc vs fun x3 vs => unc vs fun x4 vs => unc vs fun x5 vs => unc vs fun x6 vs => unc vs fun x7 vs => unz vs (B15_2 kn kx x0 x1 x2 x3 x4 x5 x6 x7 m)) (blkK 0 (fun e m => keepK e [0, 1, 4, 5, 6] fun vs => unc vs fun x0 vs => unc vs fun x1 vs => unc vs fun x2 vs => unc vs fun x3 vs => unc vs fun x4 vs => unz vs (Q15_4 x0 x1 x2 x3 x4 m)) (endK f15 m0)) n [y0, y1, y2, a0, (.int .i64 1), y1, a2, (.int .i64 0)] m3
theorem g15_5 (call : CL) (n : Nat) (m0 : Mem) (b15_2 : C) (b15_4 : C) (y0 y1 y2 : AV) (m : Mem) : evK call n (c15_5 b15_2 b15_4) [(0, y0), (1, y1), (4, y2)] m (fun e m => endK f15 m0 .nrm e m) (endK f15 m0) = G15_5 call n m0 (fun kn kx x0 x1 x2 x3 x4 x5 x6 x7 m => evK call n b15_2 [(0, x0), (1, x1), (4, x2), (5, x3), (6, x4), (17, x5), (18, x6), (19, x7)] m kn kx) (fun x0 x1 x2 x3 x4 m => evK call n b15_4 [(0, x0), (1, x1), (4, x2), (5, x3), (6, x4)] m (fun e m => endK f15 m0 .nrm e m) (endK f15 m0)) y0 y1 y2 m := by kernel_rfl
def k15_5 (call : CL) (n : Nat) (m0 : Mem) : KN := (fun e m => endK f15 m0 .nrm e m)
def x15_5 (call : CL) (n : Nat) (m0 : Mem) : KX := (endK f15 m0)
def S15_5 (call : CL) (n : Nat) (m0 : Mem) (y0 y1 y2 : AV) (m : Mem) : Rho := G15_5 call n m0 (S15_2 call n) (S15_4 call n m0) y0 y1 y2 m
def d15_5 (call : CL) (n : Nat) (m0 : Mem) (y0 y1 y2 : AV) (m : Mem) : Rho := evK call n b15_5 [(0, y0), (1, y1), (4, y2)] m (k15_5 call n m0) (x15_5 call n m0)
theorem l15_5 {call : CL} {n : Nat} {m0 : Mem} : d15_5 call n m0 = S15_5 call n m0 := by
  funext y0 y1 y2 m
  have h : d15_5 call n m0 y0 y1 y2 m = G15_5 call n m0 (d15_2 call n) (d15_4 call n m0) y0 y1 y2 m := Eq.mp (by kernel_rfl) (g15_5 call n m0 b15_2 b15_4 y0 y1 y2 m)
  rw [l15_2, l15_4] at h; exact h
def G15 (call : CL) (n : Nat) (m0 : Mem) (Q15_5 : Y3) (y0 y1 : AV) (m : Mem) : Rho :=
  newK [(.list .full 0 []), (.bool false)] m fun a0 m1 =>
  binK .lss y0 (.int .i64 0) fun a2 =>
  condK a2
  (callK call (.func 13 [] []) false [(.bool true)] m1 fun a3 m4 =>
  storeK 2 a0 a3 m4 fun a5 m6 =>
  loadK (some 2) a0 m6 fun a7 _ =>
  retK false false m0 [a7] m6)
  (Q15_5 y0 y1 a0 m1)
theorem g15 (call : CL) (n : Nat) (m0 : Mem) (b15_5 : C) (y0 y1 : AV) (m : Mem) : evK call n (c15 b15_5) [(0, y0), (1, y1)] m (fun e m => endK f15 m0 .nrm e m) (endK f15 m0) = G15 call n m0 (fun x0 x1 x2 m => evK call n b15_5 [(0, x0), (1, x1), (4, x2)] m (fun e m => endK f15 m0 .nrm e m) (endK f15 m0)) y0 y1 m := by kernel_rfl
def S15 (call : CL) (n : Nat) (m0 : Mem) (y0 y1 : AV) : Rho := G15 call n m0 (S15_5 call n m0) y0 y1 { m0 with bad := none }
theorem s15 (call : CL) (n : Nat) (m0 : Mem) (y0 y1 : AV) : bodyK call n f15 [y0, y1] m0 = S15 call n m0 y0 y1 :=
  have h : bodyK call n f15 [y0, y1] m0 = G15 call n m0 (d15_5 call n m0) y0 y1 { m0 with bad := none } := Eq.mp (by kernel_rfl) (g15 call n m0 b15_5 y0 y1 { m0 with bad := none })
  by rw [l15_5] at h; exact h
def F15 : SF := fun call n vs m0 => unc vs fun x0 vs => unc vs fun x1 vs => unz vs (S15 call n m0 x0 x1)
theorem F15_ok {orc : List AV → Mem → Option (AV × Mem)} : SOk 15 { f15 with orc := orc } F15 := by
  intro call n vs m0 ho r h0
  simp only [F15] at h0
  obtain ⟨y0, v0, rfl, h1⟩ := unc_some h0
  obtain ⟨y1, v1, rfl, h2⟩ := unc_some h1
  obtain ⟨rfl, hz⟩ := unz_some h2
  exact bodyK_le ho rfl r (Eq.mp (by kernel_rfl) ((s15 call n m0 y0 y1).trans hz))

-- resolvent/pos.And
def G16 (call : CL) (n : Nat) (m0 : Mem) (y0 y1 : AV) (m : Mem) : Rho :=
  boxK y0 m fun a0 m1 =>
  boxK y1 m1 fun a2 m3 =>
  newK [(.list .full 0 []), (.bool false)] m3 fun a4 m5 =>
  loadK (some 2) a0 m5 fun a6 m7 =>
  loadK (some 2) a2 m7 fun a8 m9 =>
  buildSliceK 2 [(.list .full 0 []), (.bool false)] 1 false [(0 * 2, 2, AV.untag a8)] m9 fun a10 m11 =>
  callK call (.func 37 [] []) false [(.func 29 [] []), a6, a10] m11 fun a12 m13 =>
  storeK 2 a4 a12 m13 fun a14 m15 =>
  loadK (some 2) a4 m15 fun a16 _ =>
  retK false false m0 [a16] m15
theorem g16 (call : CL) (n : Nat) (m0 : Mem) (y0 y1 : AV) (m : Mem) : evK call n b16 [(0, y0), (1, y1)] m (fun e m => endK f16 m0 .nrm e m) (endK f16 m0) = G16 call n m0 y0 y1 m := by kernel_rfl
def S16 (call : CL) (n : Nat) (m0 : Mem) (y0 y1 : AV) : Rho := G16 call n m0 y0 y1 { m0 with bad := none }
theorem s16 (call : CL) (n : Nat) (m0 : Mem) (y0 y1 : AV) : bodyK call n f16 [y0, y1] m0 = S16 call n m0 y0 y1 :=
  have h : bodyK call n f16 [y0, y1] m0 = G16 call n m0 y0 y1 { m0 with bad := none } := Eq.mp (by kernel_rfl) (g16 call n m0 y0 y1 { m0 with bad := none })
  h
def F16 : SF := fun call n vs m0 => unc vs fun x0 vs => unc vs fun x1 vs => unz vs (S16 call n m0 x0 x1)
theorem F16_ok {orc : List AV → Mem → Option (AV × Mem)} : SOk 16 { f16 with orc := orc } F16 := by
  intro call n vs m0 ho r h0
  simp only [F16] at h0
  obtain ⟨y0, v0, rfl, h1⟩ := unc_some h0
  obtain ⟨y1, v1, rfl, h2⟩ := unc_some h1
  obtain ⟨rfl, hz⟩ := unz_some h2
  exact bodyK_le ho rfl r (Eq.mp (by kernel_rfl) ((s16 call n m0 y0 y1).trans hz))

-- resolvent/pos.Or
def G17 (call : CL) (n : Nat) (m0 : Mem) (y0 y1 : AV) (m : Mem) : Rho :=
  boxK y0 m fun a0 m1 =>
  boxK y1 m1 fun a2 m3 =>
  newK [(.list .full 0 []), (.bool false)] m3 fun a4 m5 =>
  loadK (some 2) a0 m5 fun a6 m7 =>
  loadK (some 2) a2 m7 fun a8 m9 =>
  buildSliceK 2 [(.list .full 0 []), (.bool false)] 1 false [(0 * 2, 2, AV.untag a8)] m9 fun a10 m11 =>
  callK call (.func 37 [] []) false [(.func 31 [] []), a6, a10] m11 fun a12 m13 =>
  storeK 2 a4 a12 m13 fun a14 m15 =>
  loadK (some 2) a4 m15 fun a16 _ =>
  retK false false m0 [a16] m15
theorem g17 (call : CL) (n : Nat) (m0 : Mem) (y0 y1 : AV) (m : Mem) : evK call n b17 [(0, y0), (1, y1)] m (fun e m => endK f17 m0 .nrm e m) (endK f17 m0) = G17 call n m0 y0 y1 m := by kernel_rfl
def S17 (call : CL) (n : Nat) (m0 : Mem) (y0 y1 : AV) : Rho := G17 call n m0 y0 y1 { m0 with bad := none }
theorem s17 (call : CL) (n : Nat) (m0 : Mem) (y0 y1 : AV) : bodyK call n f17 [y0, y1] m0 = S17 call n m0 y0 y1 :=
  have h : bodyK call n f17 [y0, y1] m0 = G17 call n m0 y0 y1 { m0 with bad := none } := Eq.mp (by kernel_rfl) (g17 call n m0 y0 y1 { m0 with bad := none })
  h
def F17 : SF := fun call n vs m0 => unc vs fun x0 vs => unc vs fun x1 vs => unz vs (S17 call n m0 x0 x1)
theorem F17_ok {orc : List AV → Mem → Option (AV × Mem)} : SOk 17 { f17 with orc := orc } F17 := by
  intro call n vs m0 ho r h0
  simp only [F17] at h0
  obtain ⟨y0, v0, rfl, h1⟩ := unc_some h0
  obtain ⟨y1, v1, rfl, h2⟩ := unc_some h1
  obtain ⟨rfl, hz⟩ := unz_some h2
  exact bodyK_le ho rfl r (Eq.mp (by kernel_rfl) ((s17 call n m0 y0 y1).trans hz))

end
end Go.Proofs.P16
