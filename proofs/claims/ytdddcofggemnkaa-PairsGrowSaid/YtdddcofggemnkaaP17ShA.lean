
import Derived.Test.YtdddcofggemnkaaP17Fns
import Derived.Test.YtdddcofggemnkaaAmK
namespace Go.Proofs.P17
set_option linter.all false
open Go Go.Am
noncomputable section
abbrev CL := Nat → List AV → Mem → Rho
abbrev Y0 := Mem → Rho
abbrev Y1 := AV → Y0
abbrev Y2 := AV → Y1
abbrev Y3 := AV → Y2
abbrev Y4 := AV → Y3
abbrev Y5 := AV → Y4
abbrev Y6 := AV → Y5
abbrev Y7 := AV → Y6
abbrev Y8 := AV → Y7
abbrev Y9 := AV → Y8
abbrev Y10 := AV → Y9
abbrev Y11 := AV → Y10
abbrev Y12 := AV → Y11

-- resolvent/resolventlaw17.PairsRename
def G7_13 (call : CL) (n : Nat) (m0 : Mem) (m : Mem) : Rho :=
  callK call (.func 28 [] []) false [] m fun a0 m1 =>
  retK false false m0 [a0] m1
theorem g7_13 (call : CL) (n : Nat) (m0 : Mem) (m : Mem) : evK call n b7_13 [] m (fun e m => endK f7 m0 .nrm e m) (endK f7 m0) = G7_13 call n m0 m := by kernel_rfl
def k7_13 (call : CL) (n : Nat) (m0 : Mem) : KN := (fun e m => endK f7 m0 .nrm e m)
def x7_13 (call : CL) (n : Nat) (m0 : Mem) : KX := (endK f7 m0)
def S7_13 (call : CL) (n : Nat) (m0 : Mem) (m : Mem) : Rho := G7_13 call n m0 m
def d7_13 (call : CL) (n : Nat) (m0 : Mem) (m : Mem) : Rho := evK call n b7_13 [] m (k7_13 call n m0) (x7_13 call n m0)
theorem l7_13 {call : CL} {n : Nat} {m0 : Mem} : d7_13 call n m0 = S7_13 call n m0 := by
  funext m
  have h : d7_13 call n m0 m = G7_13 call n m0 m := Eq.mp (by kernel_rfl) (g7_13 call n m0 m)
  exact h
def G7_10 (call : CL) (n : Nat) (kn : KN) (kx : KX) (y0 y1 y2 : AV) (m : Mem) : Rho :=
  binK .add y2 (.int .i64 1) fun a0 =>
  kn [(5, y0), (6, y1), (11, a0)] m
theorem g7_10 (call : CL) (n : Nat) (kn : KN) (kx : KX) (y0 y1 y2 : AV) (m : Mem) : evK call n b7_10 [(5, y0), (6, y1), (11, y2)] m kn kx = G7_10 call n kn kx y0 y1 y2 m := by kernel_rfl
def k7_10 (call : CL) (n : Nat) (kn : KN) (kx : KX) : KN := kn
def x7_10 (call : CL) (n : Nat) (kn : KN) (kx : KX) : KX := kx
def S7_10 (call : CL) (n : Nat) (kn : KN) (kx : KX) (y0 y1 y2 : AV) (m : Mem) : Rho := G7_10 call n kn kx y0 y1 y2 m
def d7_10 (call : CL) (n : Nat) (kn : KN) (kx : KX) (y0 y1 y2 : AV) (m : Mem) : Rho := evK call n b7_10 [(5, y0), (6, y1), (11, y2)] m (k7_10 call n kn kx) (x7_10 call n kn kx)
theorem l7_10 {call : CL} {n : Nat} {kn : KN} {kx : KX} : d7_10 call n kn kx = S7_10 call n kn kx := by
  funext y0 y1 y2 m
  have h : d7_10 call n kn kx y0 y1 y2 m = G7_10 call n kn kx y0 y1 y2 m := Eq.mp (by kernel_rfl) (g7_10 call n kn kx y0 y1 y2 m)
  exact h
def G7_11 (call : CL) (n : Nat) (kn : KN) (kx : KX) (Q7_10 : Y3) (y0 y1 y2 : AV) (m : Mem) : Rho :=
  vK (aIndexAddr m 2 y1 y2) m fun a0 m1 =>
  vK (aIndexAddrA 2 1 a0 (.int .i64 0)) m1 fun a2 m3 =>
  loadK none a2 m3 fun a4 m5 =>
  vK (aIndexAddr m5 2 y1 y2) m5 fun a6 m7 =>
  vK (aIndexAddrA 2 1 a6 (.int .i64 1)) m7 fun a8 m9 =>
  loadK none a8 m9 fun a10 m11 =>
  callK call (.func 31 [] []) false [y1, a4, a10] m11 fun a12 m13 =>
  gK a12 true (fun k => k y0 m13) m13 fun a14 m15 =>
  gK a12 true (fun k => k a4 m15) m15 fun a16 m17 =>
  gK a12 true (fun k => k a10 m17) m17 fun a18 m19 =>
  gK a12 true (fun k => callK call (.func 31 [] []) false [a14, a16, a18] m19 fun a20 m21 =>
  k a20 m21) m19 fun a22 m23 =>
  gK a12 true (fun k => unK .not a22 fun a24 =>
  k a24 m23) m23 fun a25 m26 =>
  pickK a12 (some a25) (some (.bool false)) fun a27 =>
  condK a27
  (kx .ret [(4, (.bool false))] m26)
  (Q7_10 y0 y1 y2 m26)
theorem g7_11 (call : CL) (n : Nat) (kn : KN) (kx : KX) (b7_10 : C) (y0 y1 y2 : AV) (m : Mem) : evK call n (c7_11 b7_10) [(5, y0), (6, y1), (11, y2)] m kn kx = G7_11 call n kn kx (fun x0 x1 x2 m => evK call n b7_10 [(5, x0), (6, x1), (11, x2)] m kn kx) y0 y1 y2 m := by kernel_rfl
def k7_11 (call : CL) (n : Nat) (kn : KN) (kx : KX) : KN := kn
def x7_11 (call : CL) (n : Nat) (kn : KN) (kx : KX) : KX := kx
def S7_11 (call : CL) (n : Nat) (kn : KN) (kx : KX) (y0 y1 y2 : AV) (m : Mem) : Rho := G7_11 call n kn kx (S7_10 call n kn kx) y0 y1 y2 m
def d7_11 (call : CL) (n : Nat) (kn : KN) (kx : KX) (y0 y1 y2 : AV) (m : Mem) : Rho := evK call n b7_11 [(5, y0), (6, y1), (11, y2)] m (k7_11 call n kn kx) (x7_11 call n kn kx)
theorem l7_11 {call : CL} {n : Nat} {kn : KN} {kx : KX} : d7_11 call n kn kx = S7_11 call n kn kx := by
  funext y0 y1 y2 m
  have h : d7_11 call n kn kx y0 y1 y2 m = G7_11 call n kn kx (d7_10 call n kn kx) y0 y1 y2 m := Eq.mp (by kernel_rfl) (g7_11 call n kn kx b7_10 y0 y1 y2 m)
  rw [l7_10] at h; exact h
def G7_12 (call : CL) (n : Nat) (kn : KN) (kx : KX) (Q7_11 : Y3) (y0 y1 y2 : AV) (m : Mem) : Rho :=
  vK (aLen m 1 y1) m fun a0 m1 =>
  binK .lss y2 a0 fun a2 =>
  condK a2
  (Q7_11 y0 y1 y2 m1)
  (kx (.ext 4) [(5, y0), (6, y1), (11, y2), (100, a2)] m1)
theorem g7_12 (call : CL) (n : Nat) (kn : KN) (kx : KX) (b7_11 : C) (y0 y1 y2 : AV) (m : Mem) : evK call n (c7_12 b7_11) [(5, y0), (6, y1), (11, y2)] m kn kx = G7_12 call n kn kx (fun x0 x1 x2 m => evK call n b7_11 [(5, x0), (6, x1), (11, x2)] m kn kx) y0 y1 y2 m := by kernel_rfl
def S7_12 (call : CL) (n : Nat) (kn : KN) (kx : KX) (y0 y1 y2 : AV) (m : Mem) : Rho := G7_12 call n kn kx (S7_11 call n kn kx) y0 y1 y2 m
def d7_12 (call : CL) (n : Nat) (kn : KN) (kx : KX) (y0 y1 y2 : AV) (m : Mem) : Rho := evK call n b7_12 [(5, y0), (6, y1), (11, y2)] m kn kx
theorem l7_12 {call : CL} {n : Nat} : d7_12 call n = S7_12 call n := by
  funext kn kx y0 y1 y2 m
  have h : d7_12 call n kn kx y0 y1 y2 m = G7_12 call n kn kx (d7_11 call n kn kx) y0 y1 y2 m := Eq.mp (by kernel_rfl) (g7_12 call n kn kx b7_11 y0 y1 y2 m)
  rw [l7_11] at h; exact h
def G7_14 (call : CL) (n : Nat) (m0 : Mem) (B7_12 : KN → KX → Y3) (Q7_13 : Y0) (y0 y1 : AV) (m : Mem) : Rho :=
  loopV [5, 6, 11] none (fun vs m kn kx => unc vs fun x0 vs => unc vs fun x1 vs => unc vs fun x2 vs => unz vs (B7_12 kn kx x0 x1 x2 m)) (blkK 4 (fun e m => keepK e [] fun vs => unz vs (Q7_13 m)) (endK f7 m0)) n [y0, y1, (.int .i64 0)] m
theorem g7_14 (call : CL) (n : Nat) (m0 : Mem) (b7_12 : C) (b7_13 : C) (y0 y1 : AV) (m : Mem) : evK call n (c7_14 b7_12 b7_13) [(5, y0), (6, y1)] m (fun e m => endK f7 m0 .nrm e m) (endK f7 m0) = G7_14 call n m0 (fun kn kx x0 x1 x2 m => evK call n b7_12 [(5, x0), (6, x1), (11, x2)] m kn kx) (fun m => evK call n b7_13 [] m (fun e m => endK f7 m0 .nrm e m) (endK f7 m0)) y0 y1 m := by kernel_rfl
def k7_14 (call : CL) (n : Nat) (m0 : Mem) : KN := (fun e m => endK f7 m0 .nrm e m)
def x7_14 (call : CL) (n : Nat) (m0 : Mem) : KX := (endK f7 m0)
def S7_14 (call : CL) (n : Nat) (m0 : Mem) (y0 y1 : AV) (m : Mem) : Rho := G7_14 call n m0 (S7_12 call n) (S7_13 call n m0) y0 y1 m
def d7_14 (call : CL) (n : Nat) (m0 : Mem) (y0 y1 : AV) (m : Mem) : Rho := evK call n b7_14 [(5, y0), (6, y1)] m (k7_14 call n m0) (x7_14 call n m0)
theorem l7_14 {call : CL} {n : Nat} {m0 : Mem} : d7_14 call n m0 = S7_14 call n m0 := by
  funext y0 y1 m
  have h : d7_14 call n m0 y0 y1 m = G7_14 call n m0 (d7_12 call n) (d7_13 call n m0) y0 y1 m := Eq.mp (by kernel_rfl) (g7_14 call n m0 b7_12 b7_13 y0 y1 m)
  rw [l7_12, l7_13] at h; exact h
def G7_6 (call : CL) (n : Nat) (kn : KN) (kx : KX) (y0 y1 y2 : AV) (m : Mem) : Rho :=
  binK .add y2 (.int .i64 1) fun a0 =>
  kn [(5, y0), (6, y1), (10, a0)] m
theorem g7_6 (call : CL) (n : Nat) (kn : KN) (kx : KX) (y0 y1 y2 : AV) (m : Mem) : evK call n b7_6 [(5, y0), (6, y1), (10, y2)] m kn kx = G7_6 call n kn kx y0 y1 y2 m := by kernel_rfl
def k7_6 (call : CL) (n : Nat) (kn : KN) (kx : KX) : KN := kn
def x7_6 (call : CL) (n : Nat) (kn : KN) (kx : KX) : KX := kx
def S7_6 (call : CL) (n : Nat) (kn : KN) (kx : KX) (y0 y1 y2 : AV) (m : Mem) : Rho := G7_6 call n kn kx y0 y1 y2 m
def d7_6 (call : CL) (n : Nat) (kn : KN) (kx : KX) (y0 y1 y2 : AV) (m : Mem) : Rho := evK call n b7_6 [(5, y0), (6, y1), (10, y2)] m (k7_6 call n kn kx) (x7_6 call n kn kx)
theorem l7_6 {call : CL} {n : Nat} {kn : KN} {kx : KX} : d7_6 call n kn kx = S7_6 call n kn kx := by
  funext y0 y1 y2 m
  have h : d7_6 call n kn kx y0 y1 y2 m = G7_6 call n kn kx y0 y1 y2 m := Eq.mp (by kernel_rfl) (g7_6 call n kn kx y0 y1 y2 m)
  exact h
def G7_7 (call : CL) (n : Nat) (kn : KN) (kx : KX) (Q7_6 : Y3) (y0 y1 y2 : AV) (m : Mem) : Rho :=
  vK (aIndexAddr m 2 y0 y2) m fun a0 m1 =>
  vK (aIndexAddrA 2 1 a0 (.int .i64 0)) m1 fun a2 m3 =>
  loadK none a2 m3 fun a4 m5 =>
  vK (aIndexAddr m5 2 y0 y2) m5 fun a6 m7 =>
  vK (aIndexAddrA 2 1 a6 (.int .i64 1)) m7 fun a8 m9 =>
  loadK none a8 m9 fun a10 m11 =>
  callK call (.func 31 [] []) false [y1, a4, a10] m11 fun a12 m13 =>
  unK .not a12 fun a14 =>
  cond (stayK [m, m13] []) (condK a14
  (kx .ret [(4, (.bool false))] m13)
  (Q7_6 y0 y1 y2 m13)) none
theorem g7_7 (call : CL) (n : Nat) (kn : KN) (kx : KX) (b7_6 : C) (y0 y1 y2 : AV) (m : Mem) : evK call n (c7_7 b7_6) [(5, y0), (6, y1), (10, y2)] m kn kx = G7_7 call n kn kx (fun x0 x1 x2 m => evK call n b7_6 [(5, x0), (6, x1), (10, x2)] m kn kx) y0 y1 y2 m := by kernel_rfl
def k7_7 (call : CL) (n : Nat) (kn : KN) (kx : KX) : KN := kn
def x7_7 (call : CL) (n : Nat) (kn : KN) (kx : KX) : KX := kx
def S7_7 (call : CL) (n : Nat) (kn : KN) (kx : KX) (y0 y1 y2 : AV) (m : Mem) : Rho := G7_7 call n kn kx (S7_6 call n kn kx) y0 y1 y2 m
def d7_7 (call : CL) (n : Nat) (kn : KN) (kx : KX) (y0 y1 y2 : AV) (m : Mem) : Rho := evK call n b7_7 [(5, y0), (6, y1), (10, y2)] m (k7_7 call n kn kx) (x7_7 call n kn kx)
theorem l7_7 {call : CL} {n : Nat} {kn : KN} {kx : KX} : d7_7 call n kn kx = S7_7 call n kn kx := by
  funext y0 y1 y2 m
  have h : d7_7 call n kn kx y0 y1 y2 m = G7_7 call n kn kx (d7_6 call n kn kx) y0 y1 y2 m := Eq.mp (by kernel_rfl) (g7_7 call n kn kx b7_6 y0 y1 y2 m)
  rw [l7_6] at h; exact h
def G7_8 (call : CL) (n : Nat) (kn : KN) (kx : KX) (Q7_7 : Y3) (y0 y1 y2 : AV) (m : Mem) : Rho :=
  vK (aLen m 1 y0) m fun a0 m1 =>
  binK .lss y2 a0 fun a2 =>
  condK a2
  (Q7_7 y0 y1 y2 m1)
  (kx (.ext 2) [(5, y0), (6, y1), (10, y2), (81, a2)] m1)
theorem g7_8 (call : CL) (n : Nat) (kn : KN) (kx : KX) (b7_7 : C) (y0 y1 y2 : AV) (m : Mem) : evK call n (c7_8 b7_7) [(5, y0), (6, y1), (10, y2)] m kn kx = G7_8 call n kn kx (fun x0 x1 x2 m => evK call n b7_7 [(5, x0), (6, x1), (10, x2)] m kn kx) y0 y1 y2 m := by kernel_rfl
def S7_8 (call : CL) (n : Nat) (kn : KN) (kx : KX) (y0 y1 y2 : AV) (m : Mem) : Rho := G7_8 call n kn kx (S7_7 call n kn kx) y0 y1 y2 m
def d7_8 (call : CL) (n : Nat) (kn : KN) (kx : KX) (y0 y1 y2 : AV) (m : Mem) : Rho := evK call n b7_8 [(5, y0), (6, y1), (10, y2)] m kn kx
theorem l7_8 {call : CL} {n : Nat} : d7_8 call n = S7_8 call n := by
  funext kn kx y0 y1 y2 m
  have h : d7_8 call n kn kx y0 y1 y2 m = G7_8 call n kn kx (d7_7 call n kn kx) y0 y1 y2 m := Eq.mp (by kernel_rfl) (g7_8 call n kn kx b7_7 y0 y1 y2 m)
  rw [l7_7] at h; exact h
def G7_15 (call : CL) (n : Nat) (m0 : Mem) (B7_8 : KN → KX → Y3) (Q7_14 : Y2) (y0 y1 : AV) (m : Mem) : Rho :=
  loopV [5, 6, 10] none (fun vs m kn kx => unc vs fun x0 vs => unc vs fun x1 vs => unc vs fun x2 vs => unz vs (B7_8 kn kx x0 x1 x2 m)) (blkK 2 (fun e m => keepK e [5, 6] fun vs => unc vs fun x0 vs => unc vs fun x1 vs => unz vs (Q7_14 x0 x1 m)) (endK f7 m0)) n [y0, y1, (.int .i64 0)] m
theorem g7_15 (call : CL) (n : Nat) (m0 : Mem) (b7_8 : C) (b7_14 : C) (y0 y1 : AV) (m : Mem) : evK call n (c7_15 b7_8 b7_14) [(5, y0), (6, y1)] m (fun e m => endK f7 m0 .nrm e m) (endK f7 m0) = G7_15 call n m0 (fun kn kx x0 x1 x2 m => evK call n b7_8 [(5, x0), (6, x1), (10, x2)] m kn kx) (fun x0 x1 m => evK call n b7_14 [(5, x0), (6, x1)] m (fun e m => endK f7 m0 .nrm e m) (endK f7 m0)) y0 y1 m := by kernel_rfl
def k7_15 (call : CL) (n : Nat) (m0 : Mem) : KN := (fun e m => endK f7 m0 .nrm e m)
def x7_15 (call : CL) (n : Nat) (m0 : Mem) : KX := (endK f7 m0)
def S7_15 (call : CL) (n : Nat) (m0 : Mem) (y0 y1 : AV) (m : Mem) : Rho := G7_15 call n m0 (S7_8 call n) (S7_14 call n m0) y0 y1 m
def d7_15 (call : CL) (n : Nat) (m0 : Mem) (y0 y1 : AV) (m : Mem) : Rho := evK call n b7_15 [(5, y0), (6, y1)] m (k7_15 call n m0) (x7_15 call n m0)
theorem l7_15 {call : CL} {n : Nat} {m0 : Mem} : d7_15 call n m0 = S7_15 call n m0 := by
  funext y0 y1 m
  have h : d7_15 call n m0 y0 y1 m = G7_15 call n m0 (d7_8 call n) (d7_14 call n m0) y0 y1 m := Eq.mp (by kernel_rfl) (g7_15 call n m0 b7_8 b7_14 y0 y1 m)
  rw [l7_8, l7_14] at h; exact h
def G7_16 (call : CL) (n : Nat) (m0 : Mem) (Q7_15 : Y2) (y0 y1 : AV) (m : Mem) : Rho :=
  callK call (.func 30 [] []) false [y0] m fun a0 m1 =>
  unK .not a0 fun a2 =>
  condK a2
  (retK false false m0 [(.bool false)] m1)
  (Q7_15 y0 y1 m1)
theorem g7_16 (call : CL) (n : Nat) (m0 : Mem) (b7_15 : C) (y0 y1 : AV) (m : Mem) : evK call n (c7_16 b7_15) [(5, y0), (6, y1)] m (fun e m => endK f7 m0 .nrm e m) (endK f7 m0) = G7_16 call n m0 (fun x0 x1 m => evK call n b7_15 [(5, x0), (6, x1)] m (fun e m => endK f7 m0 .nrm e m) (endK f7 m0)) y0 y1 m := by kernel_rfl
def k7_16 (call : CL) (n : Nat) (m0 : Mem) : KN := (fun e m => endK f7 m0 .nrm e m)
def x7_16 (call : CL) (n : Nat) (m0 : Mem) : KX := (endK f7 m0)
def S7_16 (call : CL) (n : Nat) (m0 : Mem) (y0 y1 : AV) (m : Mem) : Rho := G7_16 call n m0 (S7_15 call n m0) y0 y1 m
def d7_16 (call : CL) (n : Nat) (m0 : Mem) (y0 y1 : AV) (m : Mem) : Rho := evK call n b7_16 [(5, y0), (6, y1)] m (k7_16 call n m0) (x7_16 call n m0)
theorem l7_16 {call : CL} {n : Nat} {m0 : Mem} : d7_16 call n m0 = S7_16 call n m0 := by
  funext y0 y1 m
  have h : d7_16 call n m0 y0 y1 m = G7_16 call n m0 (d7_15 call n m0) y0 y1 m := Eq.mp (by kernel_rfl) (g7_16 call n m0 b7_15 y0 y1 m)
  rw [l7_15] at h; exact h
def G7_2 (call : CL) (n : Nat) (kn : KN) (kx : KX) (y0 y1 y2 y3 y4 : AV) (m : Mem) : Rho :=
  binK .add y4 (.int .i64 1) fun a0 =>
  kn [(0, y0), (1, y1), (5, y2), (6, y3), (7, a0)] m
theorem g7_2 (call : CL) (n : Nat) (kn : KN) (kx : KX) (y0 y1 y2 y3 y4 : AV) (m : Mem) : evK call n b7_2 [(0, y0), (1, y1), (5, y2), (6, y3), (7, y4)] m kn kx = G7_2 call n kn kx y0 y1 y2 y3 y4 m := by kernel_rfl
def k7_2 (call : CL) (n : Nat) (kn : KN) (kx : KX) : KN := kn
def x7_2 (call : CL) (n : Nat) (kn : KN) (kx : KX) : KX := kx
def S7_2 (call : CL) (n : Nat) (kn : KN) (kx : KX) (y0 y1 y2 y3 y4 : AV) (m : Mem) : Rho := G7_2 call n kn kx y0 y1 y2 y3 y4 m
def d7_2 (call : CL) (n : Nat) (kn : KN) (kx : KX) (y0 y1 y2 y3 y4 : AV) (m : Mem) : Rho := evK call n b7_2 [(0, y0), (1, y1), (5, y2), (6, y3), (7, y4)] m (k7_2 call n kn kx) (x7_2 call n kn kx)
theorem l7_2 {call : CL} {n : Nat} {kn : KN} {kx : KX} : d7_2 call n kn kx = S7_2 call n kn kx := by
  funext y0 y1 y2 y3 y4 m
  have h : d7_2 call n kn kx y0 y1 y2 y3 y4 m = G7_2 call n kn kx y0 y1 y2 y3 y4 m := Eq.mp (by kernel_rfl) (g7_2 call n kn kx y0 y1 y2 y3 y4 m)
  exact h
def G7_3 (call : CL) (n : Nat) (kn : KN) (kx : KX) (Q7_2 : Y5) (y0 y1 y2 y3 y4 : AV) (m : Mem) : Rho :=
  vK (aIndexAddr m 2 y0 y4) m fun a0 m1 =>
  vK (aIndexAddrA 2 1 a0 (.int .i64 0)) m1 fun a2 m3 =>
  loadK none a2 m3 fun a4 m5 =>
  vK (aIndexAddr m5 2 y0 y4) m5 fun a6 m7 =>
  vK (aIndexAddrA 2 1 a6 (.int .i64 1)) m7 fun a8 m9 =>
  loadK none a8 m9 fun a10 m11 =>
  binK .geq a4 (.int .i64 0) fun a12 =>
  gK a12 true (fun k => k a10 m11) m11 fun a13 m14 =>
  gK a12 true (fun k => binK .geq a13 (.int .i64 0) fun a15 =>
  k a15 m14) m14 fun a16 m17 =>
  pickK a12 (some a16) (some (.bool false)) fun a18 =>
  gK a18 true (fun k => k a4 m17) m17 fun a19 m20 =>
  gK a18 true (fun k => k a10 m20) m20 fun a21 m22 =>
  gK a18 true (fun k => binK .neq a19 a21 fun a23 =>
  k a23 m22) m22 fun a24 m25 =>
  pickK a18 (some a24) (some (.bool false)) fun a26 =>
  gK a26 true (fun k => k a4 m25) m25 fun a27 m28 =>
  gK a26 true (fun k => k y1 m28) m28 fun a29 m30 =>
  gK a26 true (fun k => vK (aLen m30 1 a29) m30 fun a31 m32 =>
  k a31 m32) m30 fun a33 m34 =>
  gK a26 true (fun k => binK .lss a27 a33 fun a35 =>
  k a35 m34) m34 fun a36 m37 =>
  pickK a26 (some a36) (some (.bool false)) fun a38 =>
  gK a38 true (fun k => k a10 m37) m37 fun a39 m40 =>
  gK a38 true (fun k => k y1 m40) m40 fun a41 m42 =>
  gK a38 true (fun k => vK (aLen m42 1 a41) m42 fun a43 m44 =>
  k a43 m44) m42 fun a45 m46 =>
  gK a38 true (fun k => binK .lss a39 a45 fun a47 =>
  k a47 m46) m46 fun a48 m49 =>
  pickK a38 (some a48) (some (.bool false)) fun a50 =>
  condK a50
  (vK (aIndexAddr m49 1 y1 a4) m49 fun a51 m52 =>
  loadK none a51 m52 fun a53 m54 =>
  vK (aIndexAddr m54 1 y1 a10) m54 fun a55 m56 =>
  loadK none a55 m56 fun a57 m58 =>
  buildK [(.int .i64 0), (.int .i64 0)] [(0, 1, AV.untag1 a53), (1, 1, AV.untag1 a57)] fun a59 =>
  buildSliceK 2 [(.int .i64 0), (.int .i64 0)] 1 false [(0 * 2, 2, AV.untag a59)] m58 fun a60 m61 =>
  appendK 2 16 0 y3 a60 m61 fun a62 m63 =>
  cond (stayK [m49, m63] []) (Q7_2 y0 y1 y2 a62 y4 m63) none)
  (Q7_2 y0 y1 y2 y3 y4 m49)
theorem g7_3 (call : CL) (n : Nat) (kn : KN) (kx : KX) (b7_2 : C) (y0 y1 y2 y3 y4 : AV) (m : Mem) : evK call n (c7_3 b7_2) [(0, y0), (1, y1), (5, y2), (6, y3), (7, y4)] m kn kx = G7_3 call n kn kx (fun x0 x1 x2 x3 x4 m => evK call n b7_2 [(0, x0), (1, x1), (5, x2), (6, x3), (7, x4)] m kn kx) y0 y1 y2 y3 y4 m := by kernel_rfl
def k7_3 (call : CL) (n : Nat) (kn : KN) (kx : KX) : KN := kn
def x7_3 (call : CL) (n : Nat) (kn : KN) (kx : KX) : KX := kx
def S7_3 (call : CL) (n : Nat) (kn : KN) (kx : KX) (y0 y1 y2 y3 y4 : AV) (m : Mem) : Rho := G7_3 call n kn kx (S7_2 call n kn kx) y0 y1 y2 y3 y4 m
def d7_3 (call : CL) (n : Nat) (kn : KN) (kx : KX) (y0 y1 y2 y3 y4 : AV) (m : Mem) : Rho := evK call n b7_3 [(0, y0), (1, y1), (5, y2), (6, y3), (7, y4)] m (k7_3 call n kn kx) (x7_3 call n kn kx)
theorem l7_3 {call : CL} {n : Nat} {kn : KN} {kx : KX} : d7_3 call n kn kx = S7_3 call n kn kx := by
  funext y0 y1 y2 y3 y4 m
  have h : d7_3 call n kn kx y0 y1 y2 y3 y4 m = G7_3 call n kn kx (d7_2 call n kn kx) y0 y1 y2 y3 y4 m := Eq.mp (by kernel_rfl) (g7_3 call n kn kx b7_2 y0 y1 y2 y3 y4 m)
  rw [l7_2] at h; exact h
def G7_4 (call : CL) (n : Nat) (kn : KN) (kx : KX) (Q7_3 : Y5) (y0 y1 y2 y3 y4 : AV) (m : Mem) : Rho :=
  vK (aLen m 1 y0) m fun a0 m1 =>
  binK .lss y4 a0 fun a2 =>
  condK a2
  (Q7_3 y0 y1 y2 y3 y4 m1)
  (kx (.ext 0) [(0, y0), (1, y1), (5, y2), (6, y3), (7, y4), (27, a2)] m1)
theorem g7_4 (call : CL) (n : Nat) (kn : KN) (kx : KX) (b7_3 : C) (y0 y1 y2 y3 y4 : AV) (m : Mem) : evK call n (c7_4 b7_3) [(0, y0), (1, y1), (5, y2), (6, y3), (7, y4)] m kn kx = G7_4 call n kn kx (fun x0 x1 x2 x3 x4 m => evK call n b7_3 [(0, x0), (1, x1), (5, x2), (6, x3), (7, x4)] m kn kx) y0 y1 y2 y3 y4 m := by kernel_rfl
def S7_4 (call : CL) (n : Nat) (kn : KN) (kx : KX) (y0 y1 y2 y3 y4 : AV) (m : Mem) : Rho := G7_4 call n kn kx (S7_3 call n kn kx) y0 y1 y2 y3 y4 m
def d7_4 (call : CL) (n : Nat) (kn : KN) (kx : KX) (y0 y1 y2 y3 y4 : AV) (m : Mem) : Rho := evK call n b7_4 [(0, y0), (1, y1), (5, y2), (6, y3), (7, y4)] m kn kx
theorem l7_4 {call : CL} {n : Nat} : d7_4 call n = S7_4 call n := by
  funext kn kx y0 y1 y2 y3 y4 m
  have h : d7_4 call n kn kx y0 y1 y2 y3 y4 m = G7_4 call n kn kx (d7_3 call n kn kx) y0 y1 y2 y3 y4 m := Eq.mp (by kernel_rfl) (g7_4 call n kn kx b7_3 y0 y1 y2 y3 y4 m)
  rw [l7_3] at h; exact h
def G7_17 (call : CL) (n : Nat) (m0 : Mem) (B7_4 : KN → KX → Y5) (Q7_16 : Y2) (y0 y1 : AV) (m : Mem) : Rho :=
  callK call (.func 29 [] []) false [y0, y1] m fun a0 m1 =>
  tipK 2 m1 fun a2 m3 =>
  loopV [0, 1, 5, 6, 7] none (fun vs m kn kx => unc vs fun x0 vs => unc vs fun x1 vs => unc vs fun x2 vs => unc vs fun x3 vs => unc vs fun x4 vs => unz vs (B7_4 kn kx x0 x1 x2 x3 x4 m)) (blkK 0 (fun e m => keepK e [5, 6] fun vs => unc vs fun x0 vs => unc vs fun x1 vs => unz vs (Q7_16 x0 x1 m)) (endK f7 m0)) n [y0, y1, a0, a2, (.int .i64 0)] m3
theorem g7_17 (call : CL) (n : Nat) (m0 : Mem) (b7_4 : C) (b7_16 : C) (y0 y1 : AV) (m : Mem) : evK call n (c7_17 b7_4 b7_16) [(0, y0), (1, y1)] m (fun e m => endK f7 m0 .nrm e m) (endK f7 m0) = G7_17 call n m0 (fun kn kx x0 x1 x2 x3 x4 m => evK call n b7_4 [(0, x0), (1, x1), (5, x2), (6, x3), (7, x4)] m kn kx) (fun x0 x1 m => evK call n b7_16 [(5, x0), (6, x1)] m (fun e m => endK f7 m0 .nrm e m) (endK f7 m0)) y0 y1 m := by kernel_rfl
def k7_17 (call : CL) (n : Nat) (m0 : Mem) : KN := (fun e m => endK f7 m0 .nrm e m)
def x7_17 (call : CL) (n : Nat) (m0 : Mem) : KX := (endK f7 m0)
def S7_17 (call : CL) (n : Nat) (m0 : Mem) (y0 y1 : AV) (m : Mem) : Rho := G7_17 call n m0 (S7_4 call n) (S7_16 call n m0) y0 y1 m
def d7_17 (call : CL) (n : Nat) (m0 : Mem) (y0 y1 : AV) (m : Mem) : Rho := evK call n b7_17 [(0, y0), (1, y1)] m (k7_17 call n m0) (x7_17 call n m0)
theorem l7_17 {call : CL} {n : Nat} {m0 : Mem} : d7_17 call n m0 = S7_17 call n m0 := by
  funext y0 y1 m
  have h : d7_17 call n m0 y0 y1 m = G7_17 call n m0 (d7_4 call n) (d7_16 call n m0) y0 y1 m := Eq.mp (by kernel_rfl) (g7_17 call n m0 b7_4 b7_16 y0 y1 m)
  rw [l7_4, l7_16] at h; exact h
def G7 (call : CL) (n : Nat) (m0 : Mem) (Q7_17 : Y2) (y0 y1 : AV) (m : Mem) : Rho :=
  vK (aLen m 1 y0) m fun a0 m1 =>
  vK (aLen m1 1 y1) m1 fun a2 m3 =>
  buildSliceK 1 [(.int .i64 0)] 2 false [(0 * 1, 1, AV.untag a0), (1 * 1, 1, AV.untag a2)] m3 fun a4 m5 =>
  callK call (.func 27 [] []) false [a4] m5 fun a6 m7 =>
  condK a6
  (callK call (.func 28 [] []) false [] m7 fun a8 m9 =>
  retK false false m0 [a8] m9)
  (Q7_17 y0 y1 m7)
theorem g7 (call : CL) (n : Nat) (m0 : Mem) (b7_17 : C) (y0 y1 : AV) (m : Mem) : evK call n (c7 b7_17) [(0, y0), (1, y1)] m (fun e m => endK f7 m0 .nrm e m) (endK f7 m0) = G7 call n m0 (fun x0 x1 m => evK call n b7_17 [(0, x0), (1, x1)] m (fun e m => endK f7 m0 .nrm e m) (endK f7 m0)) y0 y1 m := by kernel_rfl
def S7 (call : CL) (n : Nat) (m0 : Mem) (y0 y1 : AV) : Rho := G7 call n m0 (S7_17 call n m0) y0 y1 { m0 with bad := none }
theorem s7 (call : CL) (n : Nat) (m0 : Mem) (y0 y1 : AV) : bodyK call n f7 [y0, y1] m0 = S7 call n m0 y0 y1 :=
  have h : bodyK call n f7 [y0, y1] m0 = G7 call n m0 (d7_17 call n m0) y0 y1 { m0 with bad := none } := Eq.mp (by kernel_rfl) (g7 call n m0 b7_17 y0 y1 { m0 with bad := none })
  by rw [l7_17] at h; exact h
def F7 : SF := fun call n vs m0 => unc vs fun x0 vs => unc vs fun x1 vs => unz vs (S7 call n m0 x0 x1)
theorem F7_ok {orc : List AV → Mem → Option (AV × Mem)} : SOk 7 { f7 with orc := orc } F7 := by
  intro call n vs m0 ho r h0
  simp only [F7] at h0
  obtain ⟨y0, v0, rfl, h1⟩ := unc_some h0
  obtain ⟨y1, v1, rfl, h2⟩ := unc_some h1
  obtain ⟨rfl, hz⟩ := unz_some h2
  exact bodyK_le ho rfl r (Eq.mp (by kernel_rfl) ((s7 call n m0 y0 y1).trans hz))

-- resolvent/resolventlaw17.PairsTells
def G8_19 (call : CL) (n : Nat) (m0 : Mem) (y0 y1 : AV) (m : Mem) : Rho :=
  vK (aLen m 1 y0) m fun a0 m1 =>
  binK .eql y1 a0 fun a2 =>
  gK a2 true (fun k => callK call (.func 28 [] []) false [] m1 fun a3 m4 =>
  k a3 m4) m1 fun a5 m6 =>
  pickK a2 (some a5) (some (.bool false)) fun a7 =>
  retK false false m0 [a7] m6
theorem g8_19 (call : CL) (n : Nat) (m0 : Mem) (y0 y1 : AV) (m : Mem) : evK call n b8_19 [(9, y0), (21, y1)] m (fun e m => endK f8 m0 .nrm e m) (endK f8 m0) = G8_19 call n m0 y0 y1 m := by kernel_rfl
def k8_19 (call : CL) (n : Nat) (m0 : Mem) : KN := (fun e m => endK f8 m0 .nrm e m)
def x8_19 (call : CL) (n : Nat) (m0 : Mem) : KX := (endK f8 m0)
def S8_19 (call : CL) (n : Nat) (m0 : Mem) (y0 y1 : AV) (m : Mem) : Rho := G8_19 call n m0 y0 y1 m
def d8_19 (call : CL) (n : Nat) (m0 : Mem) (y0 y1 : AV) (m : Mem) : Rho := evK call n b8_19 [(9, y0), (21, y1)] m (k8_19 call n m0) (x8_19 call n m0)
theorem l8_19 {call : CL} {n : Nat} {m0 : Mem} : d8_19 call n m0 = S8_19 call n m0 := by
  funext y0 y1 m
  have h : d8_19 call n m0 y0 y1 m = G8_19 call n m0 y0 y1 m := Eq.mp (by kernel_rfl) (g8_19 call n m0 y0 y1 m)
  exact h
def G8_16 (call : CL) (n : Nat) (kn : KN) (kx : KX) (y0 y1 y2 y3 y4 : AV) (m : Mem) : Rho :=
  binK .add y4 (.int .i64 1) fun a0 =>
  kn [(2, y0), (8, y1), (9, y2), (21, y3), (24, a0)] m
theorem g8_16 (call : CL) (n : Nat) (kn : KN) (kx : KX) (y0 y1 y2 y3 y4 : AV) (m : Mem) : evK call n b8_16 [(2, y0), (8, y1), (9, y2), (21, y3), (24, y4)] m kn kx = G8_16 call n kn kx y0 y1 y2 y3 y4 m := by kernel_rfl
def k8_16 (call : CL) (n : Nat) (kn : KN) (kx : KX) : KN := kn
def x8_16 (call : CL) (n : Nat) (kn : KN) (kx : KX) : KX := kx
def S8_16 (call : CL) (n : Nat) (kn : KN) (kx : KX) (y0 y1 y2 y3 y4 : AV) (m : Mem) : Rho := G8_16 call n kn kx y0 y1 y2 y3 y4 m
def d8_16 (call : CL) (n : Nat) (kn : KN) (kx : KX) (y0 y1 y2 y3 y4 : AV) (m : Mem) : Rho := evK call n b8_16 [(2, y0), (8, y1), (9, y2), (21, y3), (24, y4)] m (k8_16 call n kn kx) (x8_16 call n kn kx)
theorem l8_16 {call : CL} {n : Nat} {kn : KN} {kx : KX} : d8_16 call n kn kx = S8_16 call n kn kx := by
  funext y0 y1 y2 y3 y4 m
  have h : d8_16 call n kn kx y0 y1 y2 y3 y4 m = G8_16 call n kn kx y0 y1 y2 y3 y4 m := Eq.mp (by kernel_rfl) (g8_16 call n kn kx y0 y1 y2 y3 y4 m)
  exact h
def G8_17 (call : CL) (n : Nat) (kn : KN) (kx : KX) (Q8_16 : Y5) (y0 y1 y2 y3 y4 : AV) (m : Mem) : Rho :=
  vK (aIndexAddr m 1 y0 y4) m fun a0 m1 =>
  loadK none a0 m1 fun a2 m3 =>
  vK (aIndexAddr m3 1 y1 y4) m3 fun a4 m5 =>
  loadK none a4 m5 fun a6 m7 =>
  binK .neq a2 a6 fun a8 =>
  condK a8
  (kx .ret [(6, (.bool false))] m7)
  (Q8_16 y0 y1 y2 y3 y4 m7)
theorem g8_17 (call : CL) (n : Nat) (kn : KN) (kx : KX) (b8_16 : C) (y0 y1 y2 y3 y4 : AV) (m : Mem) : evK call n (c8_17 b8_16) [(2, y0), (8, y1), (9, y2), (21, y3), (24, y4)] m kn kx = G8_17 call n kn kx (fun x0 x1 x2 x3 x4 m => evK call n b8_16 [(2, x0), (8, x1), (9, x2), (21, x3), (24, x4)] m kn kx) y0 y1 y2 y3 y4 m := by kernel_rfl
def k8_17 (call : CL) (n : Nat) (kn : KN) (kx : KX) : KN := kn
def x8_17 (call : CL) (n : Nat) (kn : KN) (kx : KX) : KX := kx
def S8_17 (call : CL) (n : Nat) (kn : KN) (kx : KX) (y0 y1 y2 y3 y4 : AV) (m : Mem) : Rho := G8_17 call n kn kx (S8_16 call n kn kx) y0 y1 y2 y3 y4 m
def d8_17 (call : CL) (n : Nat) (kn : KN) (kx : KX) (y0 y1 y2 y3 y4 : AV) (m : Mem) : Rho := evK call n b8_17 [(2, y0), (8, y1), (9, y2), (21, y3), (24, y4)] m (k8_17 call n kn kx) (x8_17 call n kn kx)
theorem l8_17 {call : CL} {n : Nat} {kn : KN} {kx : KX} : d8_17 call n kn kx = S8_17 call n kn kx := by
  funext y0 y1 y2 y3 y4 m
  have h : d8_17 call n kn kx y0 y1 y2 y3 y4 m = G8_17 call n kn kx (d8_16 call n kn kx) y0 y1 y2 y3 y4 m := Eq.mp (by kernel_rfl) (g8_17 call n kn kx b8_16 y0 y1 y2 y3 y4 m)
  rw [l8_16] at h; exact h
def G8_18 (call : CL) (n : Nat) (kn : KN) (kx : KX) (Q8_17 : Y5) (y0 y1 y2 y3 y4 : AV) (m : Mem) : Rho :=
  vK (aLen m 1 y0) m fun a0 m1 =>
  binK .lss y4 a0 fun a2 =>
  condK a2
  (Q8_17 y0 y1 y2 y3 y4 m1)
  (kx (.ext 8) [(2, y0), (8, y1), (9, y2), (21, y3), (24, y4), (236, a2)] m1)
theorem g8_18 (call : CL) (n : Nat) (kn : KN) (kx : KX) (b8_17 : C) (y0 y1 y2 y3 y4 : AV) (m : Mem) : evK call n (c8_18 b8_17) [(2, y0), (8, y1), (9, y2), (21, y3), (24, y4)] m kn kx = G8_18 call n kn kx (fun x0 x1 x2 x3 x4 m => evK call n b8_17 [(2, x0), (8, x1), (9, x2), (21, x3), (24, x4)] m kn kx) y0 y1 y2 y3 y4 m := by kernel_rfl
def S8_18 (call : CL) (n : Nat) (kn : KN) (kx : KX) (y0 y1 y2 y3 y4 : AV) (m : Mem) : Rho := G8_18 call n kn kx (S8_17 call n kn kx) y0 y1 y2 y3 y4 m
def d8_18 (call : CL) (n : Nat) (kn : KN) (kx : KX) (y0 y1 y2 y3 y4 : AV) (m : Mem) : Rho := evK call n b8_18 [(2, y0), (8, y1), (9, y2), (21, y3), (24, y4)] m kn kx
theorem l8_18 {call : CL} {n : Nat} : d8_18 call n = S8_18 call n := by
  funext kn kx y0 y1 y2 y3 y4 m
  have h : d8_18 call n kn kx y0 y1 y2 y3 y4 m = G8_18 call n kn kx (d8_17 call n kn kx) y0 y1 y2 y3 y4 m := Eq.mp (by kernel_rfl) (g8_18 call n kn kx b8_17 y0 y1 y2 y3 y4 m)
  rw [l8_17] at h; exact h
def G8_20 (call : CL) (n : Nat) (m0 : Mem) (B8_18 : KN → KX → Y5) (Q8_19 : Y2) (y0 y1 y2 y3 : AV) (m : Mem) : Rho :=
  loopV [2, 8, 9, 21, 24] none (fun vs m kn kx => unc vs fun x0 vs => unc vs fun x1 vs => unc vs fun x2 vs => unc vs fun x3 vs => unc vs fun x4 vs => unz vs (B8_18 kn kx x0 x1 x2 x3 x4 m)) (blkK 8 (fun e m => keepK e [9, 21] fun vs => unc vs fun x0 vs => unc vs fun x1 vs => unz vs (Q8_19 x0 x1 m)) (endK f8 m0)) n [y0, y1, y2, y3, (.int .i64 0)] m
theorem g8_20 (call : CL) (n : Nat) (m0 : Mem) (b8_18 : C) (b8_19 : C) (y0 y1 y2 y3 : AV) (m : Mem) : evK call n (c8_20 b8_18 b8_19) [(2, y0), (8, y1), (9, y2), (21, y3)] m (fun e m => endK f8 m0 .nrm e m) (endK f8 m0) = G8_20 call n m0 (fun kn kx x0 x1 x2 x3 x4 m => evK call n b8_18 [(2, x0), (8, x1), (9, x2), (21, x3), (24, x4)] m kn kx) (fun x0 x1 m => evK call n b8_19 [(9, x0), (21, x1)] m (fun e m => endK f8 m0 .nrm e m) (endK f8 m0)) y0 y1 y2 y3 m := by kernel_rfl
def k8_20 (call : CL) (n : Nat) (m0 : Mem) : KN := (fun e m => endK f8 m0 .nrm e m)
def x8_20 (call : CL) (n : Nat) (m0 : Mem) : KX := (endK f8 m0)
def S8_20 (call : CL) (n : Nat) (m0 : Mem) (y0 y1 y2 y3 : AV) (m : Mem) : Rho := G8_20 call n m0 (S8_18 call n) (S8_19 call n m0) y0 y1 y2 y3 m
def d8_20 (call : CL) (n : Nat) (m0 : Mem) (y0 y1 y2 y3 : AV) (m : Mem) : Rho := evK call n b8_20 [(2, y0), (8, y1), (9, y2), (21, y3)] m (k8_20 call n m0) (x8_20 call n m0)
theorem l8_20 {call : CL} {n : Nat} {m0 : Mem} : d8_20 call n m0 = S8_20 call n m0 := by
  funext y0 y1 y2 y3 m
  have h : d8_20 call n m0 y0 y1 y2 y3 m = G8_20 call n m0 (d8_18 call n) (d8_19 call n m0) y0 y1 y2 y3 m := Eq.mp (by kernel_rfl) (g8_20 call n m0 b8_18 b8_19 y0 y1 y2 y3 m)
  rw [l8_18, l8_19] at h; exact h
def G8_12 (call : CL) (n : Nat) (kn : KN) (kx : KX) (y0 y1 y2 y3 y4 y5 y6 : AV) (m : Mem) : Rho :=
  binK .add y6 (.int .i64 1) fun a0 =>
  kn [(0, y0), (2, y1), (7, y2), (8, y3), (9, y4), (21, y5), (23, a0)] m
theorem g8_12 (call : CL) (n : Nat) (kn : KN) (kx : KX) (y0 y1 y2 y3 y4 y5 y6 : AV) (m : Mem) : evK call n b8_12 [(0, y0), (2, y1), (7, y2), (8, y3), (9, y4), (21, y5), (23, y6)] m kn kx = G8_12 call n kn kx y0 y1 y2 y3 y4 y5 y6 m := by kernel_rfl
def k8_12 (call : CL) (n : Nat) (kn : KN) (kx : KX) : KN := kn
def x8_12 (call : CL) (n : Nat) (kn : KN) (kx : KX) : KX := kx
def S8_12 (call : CL) (n : Nat) (kn : KN) (kx : KX) (y0 y1 y2 y3 y4 y5 y6 : AV) (m : Mem) : Rho := G8_12 call n kn kx y0 y1 y2 y3 y4 y5 y6 m
def d8_12 (call : CL) (n : Nat) (kn : KN) (kx : KX) (y0 y1 y2 y3 y4 y5 y6 : AV) (m : Mem) : Rho := evK call n b8_12 [(0, y0), (2, y1), (7, y2), (8, y3), (9, y4), (21, y5), (23, y6)] m (k8_12 call n kn kx) (x8_12 call n kn kx)
theorem l8_12 {call : CL} {n : Nat} {kn : KN} {kx : KX} : d8_12 call n kn kx = S8_12 call n kn kx := by
  funext y0 y1 y2 y3 y4 y5 y6 m
  have h : d8_12 call n kn kx y0 y1 y2 y3 y4 y5 y6 m = G8_12 call n kn kx y0 y1 y2 y3 y4 y5 y6 m := Eq.mp (by kernel_rfl) (g8_12 call n kn kx y0 y1 y2 y3 y4 y5 y6 m)
  exact h
def G8_13 (call : CL) (n : Nat) (kn : KN) (kx : KX) (Q8_12 : Y7) (y0 y1 y2 y3 y4 y5 y6 : AV) (m : Mem) : Rho :=
  vK (aIndexAddr m 2 y0 y6) m fun a0 m1 =>
  loadK (some 2) a0 m1 fun a2 m3 =>
  vK (aIndexAddr m3 2 y2 y6) m3 fun a4 m5 =>
  loadK (some 2) a4 m5 fun a6 m7 =>
  eqvK ⟨[.i, .i], true⟩ true a2 a6 fun a8 =>
  condK a8
  (kx .ret [(6, (.bool false))] m7)
  (Q8_12 y0 y1 y2 y3 y4 y5 y6 m7)
theorem g8_13 (call : CL) (n : Nat) (kn : KN) (kx : KX) (b8_12 : C) (y0 y1 y2 y3 y4 y5 y6 : AV) (m : Mem) : evK call n (c8_13 b8_12) [(0, y0), (2, y1), (7, y2), (8, y3), (9, y4), (21, y5), (23, y6)] m kn kx = G8_13 call n kn kx (fun x0 x1 x2 x3 x4 x5 x6 m => evK call n b8_12 [(0, x0), (2, x1), (7, x2), (8, x3), (9, x4), (21, x5), (23, x6)] m kn kx) y0 y1 y2 y3 y4 y5 y6 m := by kernel_rfl
def k8_13 (call : CL) (n : Nat) (kn : KN) (kx : KX) : KN := kn
def x8_13 (call : CL) (n : Nat) (kn : KN) (kx : KX) : KX := kx
def S8_13 (call : CL) (n : Nat) (kn : KN) (kx : KX) (y0 y1 y2 y3 y4 y5 y6 : AV) (m : Mem) : Rho := G8_13 call n kn kx (S8_12 call n kn kx) y0 y1 y2 y3 y4 y5 y6 m
def d8_13 (call : CL) (n : Nat) (kn : KN) (kx : KX) (y0 y1 y2 y3 y4 y5 y6 : AV) (m : Mem) : Rho := evK call n b8_13 [(0, y0), (2, y1), (7, y2), (8, y3), (9, y4), (21, y5), (23, y6)] m (k8_13 call n kn kx) (x8_13 call n kn kx)
theorem l8_13 {call : CL} {n : Nat} {kn : KN} {kx : KX} : d8_13 call n kn kx = S8_13 call n kn kx := by
  funext y0 y1 y2 y3 y4 y5 y6 m
  have h : d8_13 call n kn kx y0 y1 y2 y3 y4 y5 y6 m = G8_13 call n kn kx (d8_12 call n kn kx) y0 y1 y2 y3 y4 y5 y6 m := Eq.mp (by kernel_rfl) (g8_13 call n kn kx b8_12 y0 y1 y2 y3 y4 y5 y6 m)
  rw [l8_12] at h; exact h
def G8_14 (call : CL) (n : Nat) (kn : KN) (kx : KX) (Q8_13 : Y7) (y0 y1 y2 y3 y4 y5 y6 : AV) (m : Mem) : Rho :=
  vK (aLen m 1 y0) m fun a0 m1 =>
  binK .lss y6 a0 fun a2 =>
  condK a2
  (Q8_13 y0 y1 y2 y3 y4 y5 y6 m1)
  (kx (.ext 6) [(0, y0), (2, y1), (7, y2), (8, y3), (9, y4), (21, y5), (23, y6), (221, a2)] m1)
theorem g8_14 (call : CL) (n : Nat) (kn : KN) (kx : KX) (b8_13 : C) (y0 y1 y2 y3 y4 y5 y6 : AV) (m : Mem) : evK call n (c8_14 b8_13) [(0, y0), (2, y1), (7, y2), (8, y3), (9, y4), (21, y5), (23, y6)] m kn kx = G8_14 call n kn kx (fun x0 x1 x2 x3 x4 x5 x6 m => evK call n b8_13 [(0, x0), (2, x1), (7, x2), (8, x3), (9, x4), (21, x5), (23, x6)] m kn kx) y0 y1 y2 y3 y4 y5 y6 m := by kernel_rfl
def S8_14 (call : CL) (n : Nat) (kn : KN) (kx : KX) (y0 y1 y2 y3 y4 y5 y6 : AV) (m : Mem) : Rho := G8_14 call n kn kx (S8_13 call n kn kx) y0 y1 y2 y3 y4 y5 y6 m
def d8_14 (call : CL) (n : Nat) (kn : KN) (kx : KX) (y0 y1 y2 y3 y4 y5 y6 : AV) (m : Mem) : Rho := evK call n b8_14 [(0, y0), (2, y1), (7, y2), (8, y3), (9, y4), (21, y5), (23, y6)] m kn kx
theorem l8_14 {call : CL} {n : Nat} : d8_14 call n = S8_14 call n := by
  funext kn kx y0 y1 y2 y3 y4 y5 y6 m
  have h : d8_14 call n kn kx y0 y1 y2 y3 y4 y5 y6 m = G8_14 call n kn kx (d8_13 call n kn kx) y0 y1 y2 y3 y4 y5 y6 m := Eq.mp (by kernel_rfl) (g8_14 call n kn kx b8_13 y0 y1 y2 y3 y4 y5 y6 m)
  rw [l8_13] at h; exact h
def G8_21 (call : CL) (n : Nat) (m0 : Mem) (B8_14 : KN → KX → Y7) (Q8_20 : Y4) (y0 y1 y2 y3 y4 y5 : AV) (m : Mem) : Rho :=
  loopV [0, 2, 7, 8, 9, 21, 23] none (fun vs m kn kx => unc vs fun x0 vs => unc vs fun x1 vs => unc vs fun x2 vs => unc vs fun x3 vs => unc vs fun x4 vs => unc vs fun x5 vs => unc vs fun x6 vs => unz vs (B8_14 kn kx x0 x1 x2 x3 x4 x5 x6 m)) (blkK 6 (fun e m => keepK e [2, 8, 9, 21] fun vs => unc vs fun x0 vs => unc vs fun x1 vs => unc vs fun x2 vs => unc vs fun x3 vs => unz vs (Q8_20 x0 x1 x2 x3 m)) (endK f8 m0)) n [y0, y1, y2, y3, y4, y5, (.int .i64 0)] m
theorem g8_21 (call : CL) (n : Nat) (m0 : Mem) (b8_14 : C) (b8_20 : C) (y0 y1 y2 y3 y4 y5 : AV) (m : Mem) : evK call n (c8_21 b8_14 b8_20) [(0, y0), (2, y1), (7, y2), (8, y3), (9, y4), (21, y5)] m (fun e m => endK f8 m0 .nrm e m) (endK f8 m0) = G8_21 call n m0 (fun kn kx x0 x1 x2 x3 x4 x5 x6 m => evK call n b8_14 [(0, x0), (2, x1), (7, x2), (8, x3), (9, x4), (21, x5), (23, x6)] m kn kx) (fun x0 x1 x2 x3 m => evK call n b8_20 [(2, x0), (8, x1), (9, x2), (21, x3)] m (fun e m => endK f8 m0 .nrm e m) (endK f8 m0)) y0 y1 y2 y3 y4 y5 m := by kernel_rfl
def k8_21 (call : CL) (n : Nat) (m0 : Mem) : KN := (fun e m => endK f8 m0 .nrm e m)
def x8_21 (call : CL) (n : Nat) (m0 : Mem) : KX := (endK f8 m0)
def S8_21 (call : CL) (n : Nat) (m0 : Mem) (y0 y1 y2 y3 y4 y5 : AV) (m : Mem) : Rho := G8_21 call n m0 (S8_14 call n) (S8_20 call n m0) y0 y1 y2 y3 y4 y5 m
def d8_21 (call : CL) (n : Nat) (m0 : Mem) (y0 y1 y2 y3 y4 y5 : AV) (m : Mem) : Rho := evK call n b8_21 [(0, y0), (2, y1), (7, y2), (8, y3), (9, y4), (21, y5)] m (k8_21 call n m0) (x8_21 call n m0)
theorem l8_21 {call : CL} {n : Nat} {m0 : Mem} : d8_21 call n m0 = S8_21 call n m0 := by
  funext y0 y1 y2 y3 y4 y5 m
  have h : d8_21 call n m0 y0 y1 y2 y3 y4 y5 m = G8_21 call n m0 (d8_14 call n) (d8_20 call n m0) y0 y1 y2 y3 y4 y5 m := Eq.mp (by kernel_rfl) (g8_21 call n m0 b8_14 b8_20 y0 y1 y2 y3 y4 y5 m)
  rw [l8_14, l8_20] at h; exact h
def G8_8 (call : CL) (n : Nat) (kn : KN) (kx : KX) (y0 y1 y2 y3 y4 y5 y6 : AV) (m : Mem) : Rho :=
  binK .add y6 (.int .i64 1) fun a0 =>
  kn [(0, y0), (2, y1), (7, y2), (8, y3), (9, y4), (21, y5), (22, a0)] m
theorem g8_8 (call : CL) (n : Nat) (kn : KN) (kx : KX) (y0 y1 y2 y3 y4 y5 y6 : AV) (m : Mem) : evK call n b8_8 [(0, y0), (2, y1), (7, y2), (8, y3), (9, y4), (21, y5), (22, y6)] m kn kx = G8_8 call n kn kx y0 y1 y2 y3 y4 y5 y6 m := by kernel_rfl
def k8_8 (call : CL) (n : Nat) (kn : KN) (kx : KX) : KN := kn
def x8_8 (call : CL) (n : Nat) (kn : KN) (kx : KX) : KX := kx
def S8_8 (call : CL) (n : Nat) (kn : KN) (kx : KX) (y0 y1 y2 y3 y4 y5 y6 : AV) (m : Mem) : Rho := G8_8 call n kn kx y0 y1 y2 y3 y4 y5 y6 m
def d8_8 (call : CL) (n : Nat) (kn : KN) (kx : KX) (y0 y1 y2 y3 y4 y5 y6 : AV) (m : Mem) : Rho := evK call n b8_8 [(0, y0), (2, y1), (7, y2), (8, y3), (9, y4), (21, y5), (22, y6)] m (k8_8 call n kn kx) (x8_8 call n kn kx)
theorem l8_8 {call : CL} {n : Nat} {kn : KN} {kx : KX} : d8_8 call n kn kx = S8_8 call n kn kx := by
  funext y0 y1 y2 y3 y4 y5 y6 m
  have h : d8_8 call n kn kx y0 y1 y2 y3 y4 y5 y6 m = G8_8 call n kn kx y0 y1 y2 y3 y4 y5 y6 m := Eq.mp (by kernel_rfl) (g8_8 call n kn kx y0 y1 y2 y3 y4 y5 y6 m)
  exact h
def G8_9 (call : CL) (n : Nat) (kn : KN) (kx : KX) (Q8_8 : Y7) (y0 y1 y2 y3 y4 y5 y6 : AV) (m : Mem) : Rho :=
  vK (aIndexAddr m 2 y4 y6) m fun a0 m1 =>
  vK (aIndexAddrA 2 1 a0 (.int .i64 0)) m1 fun a2 m3 =>
  loadK none a2 m3 fun a4 m5 =>
  vK (aIndexAddr m5 2 y4 y6) m5 fun a6 m7 =>
  vK (aIndexAddrA 2 1 a6 (.int .i64 1)) m7 fun a8 m9 =>
  loadK none a8 m9 fun a10 m11 =>
  callK call (.func 31 [] []) false [y0, a4, a10] m11 fun a12 m13 =>
  cond (stayK [m, m13] []) (condK a12
  (binK .add y5 (.int .i64 1) fun a14 =>
  Q8_8 y0 y1 y2 y3 y4 a14 y6 m13)
  (Q8_8 y0 y1 y2 y3 y4 y5 y6 m13)) none
theorem g8_9 (call : CL) (n : Nat) (kn : KN) (kx : KX) (b8_8 : C) (y0 y1 y2 y3 y4 y5 y6 : AV) (m : Mem) : evK call n (c8_9 b8_8) [(0, y0), (2, y1), (7, y2), (8, y3), (9, y4), (21, y5), (22, y6)] m kn kx = G8_9 call n kn kx (fun x0 x1 x2 x3 x4 x5 x6 m => evK call n b8_8 [(0, x0), (2, x1), (7, x2), (8, x3), (9, x4), (21, x5), (22, x6)] m kn kx) y0 y1 y2 y3 y4 y5 y6 m := by kernel_rfl
def k8_9 (call : CL) (n : Nat) (kn : KN) (kx : KX) : KN := kn
def x8_9 (call : CL) (n : Nat) (kn : KN) (kx : KX) : KX := kx
def S8_9 (call : CL) (n : Nat) (kn : KN) (kx : KX) (y0 y1 y2 y3 y4 y5 y6 : AV) (m : Mem) : Rho := G8_9 call n kn kx (S8_8 call n kn kx) y0 y1 y2 y3 y4 y5 y6 m
def d8_9 (call : CL) (n : Nat) (kn : KN) (kx : KX) (y0 y1 y2 y3 y4 y5 y6 : AV) (m : Mem) : Rho := evK call n b8_9 [(0, y0), (2, y1), (7, y2), (8, y3), (9, y4), (21, y5), (22, y6)] m (k8_9 call n kn kx) (x8_9 call n kn kx)
theorem l8_9 {call : CL} {n : Nat} {kn : KN} {kx : KX} : d8_9 call n kn kx = S8_9 call n kn kx := by
  funext y0 y1 y2 y3 y4 y5 y6 m
  have h : d8_9 call n kn kx y0 y1 y2 y3 y4 y5 y6 m = G8_9 call n kn kx (d8_8 call n kn kx) y0 y1 y2 y3 y4 y5 y6 m := Eq.mp (by kernel_rfl) (g8_9 call n kn kx b8_8 y0 y1 y2 y3 y4 y5 y6 m)
  rw [l8_8] at h; exact h
def G8_10 (call : CL) (n : Nat) (kn : KN) (kx : KX) (Q8_9 : Y7) (y0 y1 y2 y3 y4 y5 y6 : AV) (m : Mem) : Rho :=
  vK (aLen m 1 y4) m fun a0 m1 =>
  binK .lss y6 a0 fun a2 =>
  condK a2
  (Q8_9 y0 y1 y2 y3 y4 y5 y6 m1)
  (kx (.ext 4) [(0, y0), (2, y1), (7, y2), (8, y3), (9, y4), (21, y5), (22, y6), (201, a2)] m1)
theorem g8_10 (call : CL) (n : Nat) (kn : KN) (kx : KX) (b8_9 : C) (y0 y1 y2 y3 y4 y5 y6 : AV) (m : Mem) : evK call n (c8_10 b8_9) [(0, y0), (2, y1), (7, y2), (8, y3), (9, y4), (21, y5), (22, y6)] m kn kx = G8_10 call n kn kx (fun x0 x1 x2 x3 x4 x5 x6 m => evK call n b8_9 [(0, x0), (2, x1), (7, x2), (8, x3), (9, x4), (21, x5), (22, x6)] m kn kx) y0 y1 y2 y3 y4 y5 y6 m := by kernel_rfl
def S8_10 (call : CL) (n : Nat) (kn : KN) (kx : KX) (y0 y1 y2 y3 y4 y5 y6 : AV) (m : Mem) : Rho := G8_10 call n kn kx (S8_9 call n kn kx) y0 y1 y2 y3 y4 y5 y6 m
def d8_10 (call : CL) (n : Nat) (kn : KN) (kx : KX) (y0 y1 y2 y3 y4 y5 y6 : AV) (m : Mem) : Rho := evK call n b8_10 [(0, y0), (2, y1), (7, y2), (8, y3), (9, y4), (21, y5), (22, y6)] m kn kx
theorem l8_10 {call : CL} {n : Nat} : d8_10 call n = S8_10 call n := by
  funext kn kx y0 y1 y2 y3 y4 y5 y6 m
  have h : d8_10 call n kn kx y0 y1 y2 y3 y4 y5 y6 m = G8_10 call n kn kx (d8_9 call n kn kx) y0 y1 y2 y3 y4 y5 y6 m := Eq.mp (by kernel_rfl) (g8_10 call n kn kx b8_9 y0 y1 y2 y3 y4 y5 y6 m)
  rw [l8_9] at h; exact h
def G8_22 (call : CL) (n : Nat) (m0 : Mem) (B8_10 : KN → KX → Y7) (Q8_21 : Y6) (y0 y1 y2 y3 y4 : AV) (m : Mem) : Rho :=
  loopV [0, 2, 7, 8, 9, 21, 22] none (fun vs m kn kx => unc vs fun x0 vs => unc vs fun x1 vs => unc vs fun x2 vs => unc vs fun x3 vs => unc vs fun x4 vs => unc vs fun x5 vs => unc vs fun x6 vs => unz vs (B8_10 kn kx x0 x1 x2 x3 x4 x5 x6 m)) (blkK 4 (fun e m => keepK e [0, 2, 7, 8, 9, 21] fun vs => unc vs fun x0 vs => unc vs fun x1 vs => unc vs fun x2 vs => unc vs fun x3 vs => unc vs fun x4 vs => unc vs fun x5 vs => unz vs (Q8_21 x0 x1 x2 x3 x4 x5 m)) (endK f8 m0)) n [y0, y1, y2, y3, y4, (.int .i64 0), (.int .i64 0)] m
theorem g8_22 (call : CL) (n : Nat) (m0 : Mem) (b8_10 : C) (b8_21 : C) (y0 y1 y2 y3 y4 : AV) (m : Mem) : evK call n (c8_22 b8_10 b8_21) [(0, y0), (2, y1), (7, y2), (8, y3), (9, y4)] m (fun e m => endK f8 m0 .nrm e m) (endK f8 m0) = G8_22 call n m0 (fun kn kx x0 x1 x2 x3 x4 x5 x6 m => evK call n b8_10 [(0, x0), (2, x1), (7, x2), (8, x3), (9, x4), (21, x5), (22, x6)] m kn kx) (fun x0 x1 x2 x3 x4 x5 m => evK call n b8_21 [(0, x0), (2, x1), (7, x2), (8, x3), (9, x4), (21, x5)] m (fun e m => endK f8 m0 .nrm e m) (endK f8 m0)) y0 y1 y2 y3 y4 m := by kernel_rfl
def k8_22 (call : CL) (n : Nat) (m0 : Mem) : KN := (fun e m => endK f8 m0 .nrm e m)
def x8_22 (call : CL) (n : Nat) (m0 : Mem) : KX := (endK f8 m0)
def S8_22 (call : CL) (n : Nat) (m0 : Mem) (y0 y1 y2 y3 y4 : AV) (m : Mem) : Rho := G8_22 call n m0 (S8_10 call n) (S8_21 call n m0) y0 y1 y2 y3 y4 m
def d8_22 (call : CL) (n : Nat) (m0 : Mem) (y0 y1 y2 y3 y4 : AV) (m : Mem) : Rho := evK call n b8_22 [(0, y0), (2, y1), (7, y2), (8, y3), (9, y4)] m (k8_22 call n m0) (x8_22 call n m0)
theorem l8_22 {call : CL} {n : Nat} {m0 : Mem} : d8_22 call n m0 = S8_22 call n m0 := by
  funext y0 y1 y2 y3 y4 m
  have h : d8_22 call n m0 y0 y1 y2 y3 y4 m = G8_22 call n m0 (d8_10 call n) (d8_21 call n m0) y0 y1 y2 y3 y4 m := Eq.mp (by kernel_rfl) (g8_22 call n m0 b8_10 b8_21 y0 y1 y2 y3 y4 m)
  rw [l8_10, l8_21] at h; exact h
def G8_4 (call : CL) (n : Nat) (kn : KN) (kx : KX) (y0 y1 y2 y3 y4 y5 y6 y7 y8 y9 y10 y11 y12 : AV) (m : Mem) : Rho :=
  binK .add y12 (.int .i64 1) fun a0 =>
  kn [(0, y0), (1, y1), (2, y2), (7, y3), (8, y4), (9, y5), (10, y6), (11, y7), (12, y8), (13, y9), (14, y10), (15, y11), (16, a0)] m
theorem g8_4 (call : CL) (n : Nat) (kn : KN) (kx : KX) (y0 y1 y2 y3 y4 y5 y6 y7 y8 y9 y10 y11 y12 : AV) (m : Mem) : evK call n b8_4 [(0, y0), (1, y1), (2, y2), (7, y3), (8, y4), (9, y5), (10, y6), (11, y7), (12, y8), (13, y9), (14, y10), (15, y11), (16, y12)] m kn kx = G8_4 call n kn kx y0 y1 y2 y3 y4 y5 y6 y7 y8 y9 y10 y11 y12 m := by kernel_rfl
def k8_4 (call : CL) (n : Nat) (kn : KN) (kx : KX) : KN := kn
def x8_4 (call : CL) (n : Nat) (kn : KN) (kx : KX) : KX := kx
def S8_4 (call : CL) (n : Nat) (kn : KN) (kx : KX) (y0 y1 y2 y3 y4 y5 y6 y7 y8 y9 y10 y11 y12 : AV) (m : Mem) : Rho := G8_4 call n kn kx y0 y1 y2 y3 y4 y5 y6 y7 y8 y9 y10 y11 y12 m
def d8_4 (call : CL) (n : Nat) (kn : KN) (kx : KX) (y0 y1 y2 y3 y4 y5 y6 y7 y8 y9 y10 y11 y12 : AV) (m : Mem) : Rho := evK call n b8_4 [(0, y0), (1, y1), (2, y2), (7, y3), (8, y4), (9, y5), (10, y6), (11, y7), (12, y8), (13, y9), (14, y10), (15, y11), (16, y12)] m (k8_4 call n kn kx) (x8_4 call n kn kx)
theorem l8_4 {call : CL} {n : Nat} {kn : KN} {kx : KX} : d8_4 call n kn kx = S8_4 call n kn kx := by
  funext y0 y1 y2 y3 y4 y5 y6 y7 y8 y9 y10 y11 y12 m
  have h : d8_4 call n kn kx y0 y1 y2 y3 y4 y5 y6 y7 y8 y9 y10 y11 y12 m = G8_4 call n kn kx y0 y1 y2 y3 y4 y5 y6 y7 y8 y9 y10 y11 y12 m := Eq.mp (by kernel_rfl) (g8_4 call n kn kx y0 y1 y2 y3 y4 y5 y6 y7 y8 y9 y10 y11 y12 m)
  exact h
def G8_0 (call : CL) (n : Nat) (kn : KN) (kx : KX) (y0 y1 y2 y3 y4 y5 y6 y7 y8 y9 y10 y11 y12 y13 y14 : AV) (m : Mem) : Rho :=
  binK .add y14 (.int .i64 1) fun a0 =>
  kn [(0, y0), (1, y1), (2, y2), (7, y3), (8, y4), (9, y5), (10, y6), (11, y7), (12, y8), (13, y9), (14, y10), (15, y11), (16, y12), (17, y13), (18, a0)] m
theorem g8_0 (call : CL) (n : Nat) (kn : KN) (kx : KX) (y0 y1 y2 y3 y4 y5 y6 y7 y8 y9 y10 y11 y12 y13 y14 : AV) (m : Mem) : evK call n b8_0 [(0, y0), (1, y1), (2, y2), (7, y3), (8, y4), (9, y5), (10, y6), (11, y7), (12, y8), (13, y9), (14, y10), (15, y11), (16, y12), (17, y13), (18, y14)] m kn kx = G8_0 call n kn kx y0 y1 y2 y3 y4 y5 y6 y7 y8 y9 y10 y11 y12 y13 y14 m := by kernel_rfl
def k8_0 (call : CL) (n : Nat) (kn : KN) (kx : KX) : KN := kn
def x8_0 (call : CL) (n : Nat) (kn : KN) (kx : KX) : KX := kx
def S8_0 (call : CL) (n : Nat) (kn : KN) (kx : KX) (y0 y1 y2 y3 y4 y5 y6 y7 y8 y9 y10 y11 y12 y13 y14 : AV) (m : Mem) : Rho := G8_0 call n kn kx y0 y1 y2 y3 y4 y5 y6 y7 y8 y9 y10 y11 y12 y13 y14 m
def d8_0 (call : CL) (n : Nat) (kn : KN) (kx : KX) (y0 y1 y2 y3 y4 y5 y6 y7 y8 y9 y10 y11 y12 y13 y14 : AV) (m : Mem) : Rho := evK call n b8_0 [(0, y0), (1, y1), (2, y2), (7, y3), (8, y4), (9, y5), (10, y6), (11, y7), (12, y8), (13, y9), (14, y10), (15, y11), (16, y12), (17, y13), (18, y14)] m (k8_0 call n kn kx) (x8_0 call n kn kx)
theorem l8_0 {call : CL} {n : Nat} {kn : KN} {kx : KX} : d8_0 call n kn kx = S8_0 call n kn kx := by
  funext y0 y1 y2 y3 y4 y5 y6 y7 y8 y9 y10 y11 y12 y13 y14 m
  have h : d8_0 call n kn kx y0 y1 y2 y3 y4 y5 y6 y7 y8 y9 y10 y11 y12 y13 y14 m = G8_0 call n kn kx y0 y1 y2 y3 y4 y5 y6 y7 y8 y9 y10 y11 y12 y13 y14 m := Eq.mp (by kernel_rfl) (g8_0 call n kn kx y0 y1 y2 y3 y4 y5 y6 y7 y8 y9 y10 y11 y12 y13 y14 m)
  exact h
def G8_1 (call : CL) (n : Nat) (kn : KN) (kx : KX) (Q8_0 : AV → AV → AV → Y12) (y0 y1 y2 y3 y4 y5 y6 y7 y8 y9 y10 y11 y12 y13 y14 : AV) (m : Mem) : Rho :=
  vK (aIndexAddr m 1 y11 y14) m fun a0 m1 =>
  loadK none a0 m1 fun a2 m3 =>
  callK call (.func 31 [] []) false [y0, y13, a2] m3 fun a4 m5 =>
  callK call (.func 42 [] []) false [y0, y13, a2] m5 fun a6 m7 =>
  eqvK ⟨[.b], false⟩ true a6 a4 fun a8 =>
  gK a8 false (fun k => k y5 m7) m7 fun a9 m10 =>
  gK a8 false (fun k => k y13 m10) m10 fun a11 m12 =>
  gK a8 false (fun k => k a2 m12) m12 fun a13 m14 =>
  gK a8 false (fun k => callK call (.func 31 [] []) false [a9, a11, a13] m14 fun a15 m16 =>
  k a15 m16) m14 fun a17 m18 =>
  gK a8 false (fun k => k a4 m18) m18 fun a19 m20 =>
  gK a8 false (fun k => eqvK ⟨[.b], false⟩ true a17 a19 fun a21 =>
  k a21 m20) m20 fun a22 m23 =>
  pickK a8 (some (.bool true)) (some a22) fun a24 =>
  gK a24 false (fun k => k y6 m23) m23 fun a25 m26 =>
  gK a24 false (fun k => k y13 m26) m26 fun a27 m28 =>
  gK a24 false (fun k => k a2 m28) m28 fun a29 m30 =>
  gK a24 false (fun k => callK call (.func 31 [] []) false [a25, a27, a29] m30 fun a31 m32 =>
  k a31 m32) m30 fun a33 m34 =>
  gK a24 false (fun k => k a4 m34) m34 fun a35 m36 =>
  gK a24 false (fun k => k a35 m36) m36 fun a37 m38 =>
  gK a37 false (fun k => k y1 m38) m38 fun a39 m40 =>
  gK a37 false (fun k => k y13 m40) m40 fun a41 m42 =>
  gK a37 false (fun k => k a2 m42) m42 fun a43 m44 =>
  gK a37 false (fun k => callK call (.func 31 [] []) false [a39, a41, a43] m44 fun a45 m46 =>
  k a45 m46) m44 fun a47 m48 =>
  gK a24 false (fun k => pickK a37 (some (.bool true)) (some a47) fun a49 =>
  k a49 m48) m48 fun a50 m51 =>
  gK a24 false (fun k => eqvK ⟨[.b], false⟩ true a33 a50 fun a52 =>
  k a52 m51) m51 fun a53 m54 =>
  pickK a24 (some (.bool true)) (some a53) fun a55 =>
  gK a55 false (fun k => k y7 m54) m54 fun a56 m57 =>
  gK a55 false (fun k => k y13 m57) m57 fun a58 m59 =>
  gK a55 false (fun k => k a2 m59) m59 fun a60 m61 =>
  gK a55 false (fun k => callK call (.func 31 [] []) false [a56, a58, a60] m61 fun a62 m63 =>
  k a62 m63) m61 fun a64 m65 =>
  gK a55 false (fun k => k a4 m65) m65 fun a66 m67 =>
  gK a55 false (fun k => k a66 m67) m67 fun a68 m69 =>
  gK a68 false (fun k => k y13 m69) m69 fun a70 m71 =>
  gK a68 false (fun k => k a2 m71) m71 fun a72 m73 =>
  gK a68 false (fun k => binK .neq a70 a72 fun a74 =>
  k a74 m73) m73 fun a75 m76 =>
  gK a68 false (fun k => k a75 m76) m76 fun a77 m78 =>
  gK a77 true (fun k => k y2 m78) m78 fun a79 m80 =>
  gK a77 true (fun k => k y13 m80) m80 fun a81 m82 =>
  gK a77 true (fun k => callK call (.func 40 [] []) false [a79, a81] m82 fun a83 m84 =>
  k a83 m84) m82 fun a85 m86 =>
  gK a68 false (fun k => pickK a77 (some a85) (some (.bool false)) fun a87 =>
  k a87 m86) m86 fun a88 m89 =>
  gK a68 false (fun k => k a88 m89) m89 fun a90 m91 =>
  gK a90 true (fun k => k y2 m91) m91 fun a92 m93 =>
  gK a90 true (fun k => k a2 m93) m93 fun a94 m95 =>
  gK a90 true (fun k => callK call (.func 40 [] []) false [a92, a94] m95 fun a96 m97 =>
  k a96 m97) m95 fun a98 m99 =>
  gK a68 false (fun k => pickK a90 (some a98) (some (.bool false)) fun a100 =>
  k a100 m99) m99 fun a101 m102 =>
  gK a55 false (fun k => pickK a68 (some (.bool true)) (some a101) fun a103 =>
  k a103 m102) m102 fun a104 m105 =>
  gK a55 false (fun k => eqvK ⟨[.b], false⟩ true a64 a104 fun a106 =>
  k a106 m105) m105 fun a107 m108 =>
  pickK a55 (some (.bool true)) (some a107) fun a109 =>
  gK a109 false (fun k => k y8 m108) m108 fun a110 m111 =>
  gK a109 false (fun k => k y13 m111) m111 fun a112 m113 =>
  gK a109 false (fun k => k a2 m113) m113 fun a114 m115 =>
  gK a109 false (fun k => callK call (.func 31 [] []) false [a110, a112, a114] m115 fun a116 m117 =>
  k a116 m117) m115 fun a118 m119 =>
  gK a109 false (fun k => k a4 m119) m119 fun a120 m121 =>
  gK a109 false (fun k => k a120 m121) m121 fun a122 m123 =>
  gK a122 true (fun k => k y2 m123) m123 fun a124 m125 =>
  gK a122 true (fun k => k y13 m125) m125 fun a126 m127 =>
  gK a122 true (fun k => callK call (.func 40 [] []) false [a124, a126] m127 fun a128 m129 =>
  k a128 m129) m127 fun a130 m131 =>
  gK a122 true (fun k => unK .not a130 fun a132 =>
  k a132 m131) m131 fun a133 m134 =>
  gK a109 false (fun k => pickK a122 (some a133) (some (.bool false)) fun a135 =>
  k a135 m134) m134 fun a136 m137 =>
  gK a109 false (fun k => k a136 m137) m137 fun a138 m139 =>
  gK a138 true (fun k => k y2 m139) m139 fun a140 m141 =>
  gK a138 true (fun k => k a2 m141) m141 fun a142 m143 =>
  gK a138 true (fun k => callK call (.func 40 [] []) false [a140, a142] m143 fun a144 m145 =>
  k a144 m145) m143 fun a146 m147 =>
  gK a138 true (fun k => unK .not a146 fun a148 =>
  k a148 m147) m147 fun a149 m150 =>
  gK a109 false (fun k => pickK a138 (some a149) (some (.bool false)) fun a151 =>
  k a151 m150) m150 fun a152 m153 =>
  gK a109 false (fun k => eqvK ⟨[.b], false⟩ true a118 a152 fun a154 =>
  k a154 m153) m153 fun a155 m156 =>
  pickK a109 (some (.bool true)) (some a155) fun a157 =>
  condK a157
  (kx .ret [(6, (.bool false))] m156)
  (Q8_0 y0 y1 y2 y3 y4 y5 y6 y7 y8 y9 y10 y11 y12 y13 y14 m156)
theorem g8_1 (call : CL) (n : Nat) (kn : KN) (kx : KX) (b8_0 : C) (y0 y1 y2 y3 y4 y5 y6 y7 y8 y9 y10 y11 y12 y13 y14 : AV) (m : Mem) : evK call n (c8_1 b8_0) [(0, y0), (1, y1), (2, y2), (7, y3), (8, y4), (9, y5), (10, y6), (11, y7), (12, y8), (13, y9), (14, y10), (15, y11), (16, y12), (17, y13), (18, y14)] m kn kx = G8_1 call n kn kx (fun x0 x1 x2 x3 x4 x5 x6 x7 x8 x9 x10 x11 x12 x13 x14 m => evK call n b8_0 [(0, x0), (1, x1), (2, x2), (7, x3), (8, x4), (9, x5), (10, x6), (11, x7), (12, x8), (13, x9), (14, x10), (15, x11), (16, x12), (17, x13), (18, x14)] m kn kx) y0 y1 y2 y3 y4 y5 y6 y7 y8 y9 y10 y11 y12 y13 y14 m := by kernel_rfl
def k8_1 (call : CL) (n : Nat) (kn : KN) (kx : KX) : KN := kn
def x8_1 (call : CL) (n : Nat) (kn : KN) (kx : KX) : KX := kx
def S8_1 (call : CL) (n : Nat) (kn : KN) (kx : KX) (y0 y1 y2 y3 y4 y5 y6 y7 y8 y9 y10 y11 y12 y13 y14 : AV) (m : Mem) : Rho := G8_1 call n kn kx (S8_0 call n kn kx) y0 y1 y2 y3 y4 y5 y6 y7 y8 y9 y10 y11 y12 y13 y14 m
def d8_1 (call : CL) (n : Nat) (kn : KN) (kx : KX) (y0 y1 y2 y3 y4 y5 y6 y7 y8 y9 y10 y11 y12 y13 y14 : AV) (m : Mem) : Rho := evK call n b8_1 [(0, y0), (1, y1), (2, y2), (7, y3), (8, y4), (9, y5), (10, y6), (11, y7), (12, y8), (13, y9), (14, y10), (15, y11), (16, y12), (17, y13), (18, y14)] m (k8_1 call n kn kx) (x8_1 call n kn kx)
theorem l8_1 {call : CL} {n : Nat} {kn : KN} {kx : KX} : d8_1 call n kn kx = S8_1 call n kn kx := by
  funext y0 y1 y2 y3 y4 y5 y6 y7 y8 y9 y10 y11 y12 y13 y14 m
  have h : d8_1 call n kn kx y0 y1 y2 y3 y4 y5 y6 y7 y8 y9 y10 y11 y12 y13 y14 m = G8_1 call n kn kx (d8_0 call n kn kx) y0 y1 y2 y3 y4 y5 y6 y7 y8 y9 y10 y11 y12 y13 y14 m := Eq.mp (by kernel_rfl) (g8_1 call n kn kx b8_0 y0 y1 y2 y3 y4 y5 y6 y7 y8 y9 y10 y11 y12 y13 y14 m)
  rw [l8_0] at h; exact h
def G8_2 (call : CL) (n : Nat) (kn : KN) (kx : KX) (Q8_1 : AV → AV → AV → Y12) (y0 y1 y2 y3 y4 y5 y6 y7 y8 y9 y10 y11 y12 y13 y14 : AV) (m : Mem) : Rho :=
  vK (aLen m 1 y11) m fun a0 m1 =>
  binK .lss y14 a0 fun a2 =>
  condK a2
  (Q8_1 y0 y1 y2 y3 y4 y5 y6 y7 y8 y9 y10 y11 y12 y13 y14 m1)
  (kx (.ext 2) [(0, y0), (1, y1), (2, y2), (7, y3), (8, y4), (9, y5), (10, y6), (11, y7), (12, y8), (13, y9), (14, y10), (15, y11), (16, y12), (17, y13), (18, y14), (116, a2)] m1)
theorem g8_2 (call : CL) (n : Nat) (kn : KN) (kx : KX) (b8_1 : C) (y0 y1 y2 y3 y4 y5 y6 y7 y8 y9 y10 y11 y12 y13 y14 : AV) (m : Mem) : evK call n (c8_2 b8_1) [(0, y0), (1, y1), (2, y2), (7, y3), (8, y4), (9, y5), (10, y6), (11, y7), (12, y8), (13, y9), (14, y10), (15, y11), (16, y12), (17, y13), (18, y14)] m kn kx = G8_2 call n kn kx (fun x0 x1 x2 x3 x4 x5 x6 x7 x8 x9 x10 x11 x12 x13 x14 m => evK call n b8_1 [(0, x0), (1, x1), (2, x2), (7, x3), (8, x4), (9, x5), (10, x6), (11, x7), (12, x8), (13, x9), (14, x10), (15, x11), (16, x12), (17, x13), (18, x14)] m kn kx) y0 y1 y2 y3 y4 y5 y6 y7 y8 y9 y10 y11 y12 y13 y14 m := by kernel_rfl
def S8_2 (call : CL) (n : Nat) (kn : KN) (kx : KX) (y0 y1 y2 y3 y4 y5 y6 y7 y8 y9 y10 y11 y12 y13 y14 : AV) (m : Mem) : Rho := G8_2 call n kn kx (S8_1 call n kn kx) y0 y1 y2 y3 y4 y5 y6 y7 y8 y9 y10 y11 y12 y13 y14 m
def d8_2 (call : CL) (n : Nat) (kn : KN) (kx : KX) (y0 y1 y2 y3 y4 y5 y6 y7 y8 y9 y10 y11 y12 y13 y14 : AV) (m : Mem) : Rho := evK call n b8_2 [(0, y0), (1, y1), (2, y2), (7, y3), (8, y4), (9, y5), (10, y6), (11, y7), (12, y8), (13, y9), (14, y10), (15, y11), (16, y12), (17, y13), (18, y14)] m kn kx
theorem l8_2 {call : CL} {n : Nat} : d8_2 call n = S8_2 call n := by
  funext kn kx y0 y1 y2 y3 y4 y5 y6 y7 y8 y9 y10 y11 y12 y13 y14 m
  have h : d8_2 call n kn kx y0 y1 y2 y3 y4 y5 y6 y7 y8 y9 y10 y11 y12 y13 y14 m = G8_2 call n kn kx (d8_1 call n kn kx) y0 y1 y2 y3 y4 y5 y6 y7 y8 y9 y10 y11 y12 y13 y14 m := Eq.mp (by kernel_rfl) (g8_2 call n kn kx b8_1 y0 y1 y2 y3 y4 y5 y6 y7 y8 y9 y10 y11 y12 y13 y14 m)
  rw [l8_1] at h; exact h
def G8_3 (call : CL) (n : Nat) (kn : KN) (kx : KX) (B8_2 : KN → KX → AV → AV → AV → Y12) (Q8_4 : AV → Y12) (y0 y1 y2 y3 y4 y5 y6 y7 y8 y9 y10 y11 y12 y13 : AV) (m : Mem) : Rho :=
  loopV [0, 1, 2, 7, 8, 9, 10, 11, 12, 13, 14, 15, 16, 17, 18] none (fun vs m kn kx => unc vs fun x0 vs => unc vs fun x1 vs => unc vs fun x2 vs => unc vs fun x3 vs => unc vs fun x4 vs => unc vs fun x5 vs => unc vs fun x6 vs => unc vs fun x7 vs => unc vs fun x8 vs => unc vs fun x9 vs => unc vs fun x10 vs => unc vs fun x11 vs => unc vs fun x12 vs => unc vs fun x13 vs => unc vs fun x14 vs => unz vs (B8_2 kn kx x0 x1 x2 x3 x4 x5 x6 x7 x8 x9 x10 x11 x12 x13 x14 m)) (blkK 2 (fun e m => keepK e [0, 1, 2, 7, 8, 9, 10, 11, 12, 13, 14, 15, 16] fun vs => unc vs fun x0 vs => unc vs fun x1 vs => unc vs fun x2 vs => unc vs fun x3 vs => unc vs fun x4 vs => unc vs fun x5 vs => unc vs fun x6 vs => unc vs fun x7 vs => unc vs fun x8 vs => unc vs fun x9 vs => unc vs fun x10 vs => unc vs fun x11 vs => unc vs fun x12 vs => unz vs (Q8_4 x0 x1 x2 x3 x4 x5 x6 x7 x8 x9 x10 x11 x12 m)) (blkK 1 (fun e m => keepK e [0, 1, 2, 7, 8, 9, 10, 11, 12, 13, 14, 15, 16] fun vs => unc vs fun x0 vs => unc vs fun x1 vs => unc vs fun x2 vs => unc vs fun x3 vs => unc vs fun x4 vs => unc vs fun x5 vs => unc vs fun x6 vs => unc vs fun x7 vs => unc vs fun x8 vs => unc vs fun x9 vs => unc vs fun x10 vs => unc vs fun x11 vs => unc vs fun x12 vs => unz vs (Q8_4 x0 x1 x2 x3 x4 x5 x6 x7 x8 x9 x10 x11 x12 m)) kx)) n [y0, y1, y2, y3, y4, y5, y6, y7, y8, y9, y10, y11, y12, y13, (.int .i64 0)] m
theorem g8_3 (call : CL) (n : Nat) (kn : KN) (kx : KX) (b8_2 : C) (b8_4 : C) (k8_4 : KN) (x8_4 : KX) (y0 y1 y2 y3 y4 y5 y6 y7 y8 y9 y10 y11 y12 y13 : AV) (m : Mem) : evK call n (c8_3 b8_2) [(0, y0), (1, y1), (2, y2), (7, y3), (8, y4), (9, y5), (10, y6), (11, y7), (12, y8), (13, y9), (14, y10), (15, y11), (16, y12), (17, y13)] m (jn call n [0, 1, 2, 7, 8, 9, 10, 11, 12, 13, 14, 15, 16] b8_4 k8_4 x8_4) (blkK 1 (jn call n [0, 1, 2, 7, 8, 9, 10, 11, 12, 13, 14, 15, 16] b8_4 k8_4 x8_4) kx) = G8_3 call n kn kx (fun kn kx x0 x1 x2 x3 x4 x5 x6 x7 x8 x9 x10 x11 x12 x13 x14 m => evK call n b8_2 [(0, x0), (1, x1), (2, x2), (7, x3), (8, x4), (9, x5), (10, x6), (11, x7), (12, x8), (13, x9), (14, x10), (15, x11), (16, x12), (17, x13), (18, x14)] m kn kx) (fun x0 x1 x2 x3 x4 x5 x6 x7 x8 x9 x10 x11 x12 m => evK call n b8_4 [(0, x0), (1, x1), (2, x2), (7, x3), (8, x4), (9, x5), (10, x6), (11, x7), (12, x8), (13, x9), (14, x10), (15, x11), (16, x12)] m k8_4 x8_4) y0 y1 y2 y3 y4 y5 y6 y7 y8 y9 y10 y11 y12 y13 m := by kernel_rfl
def k8_3 (call : CL) (n : Nat) (kn : KN) (kx : KX) : KN := (jn call n [0, 1, 2, 7, 8, 9, 10, 11, 12, 13, 14, 15, 16] b8_4 (k8_4 call n kn kx) (x8_4 call n kn kx))
def x8_3 (call : CL) (n : Nat) (kn : KN) (kx : KX) : KX := (blkK 1 (jn call n [0, 1, 2, 7, 8, 9, 10, 11, 12, 13, 14, 15, 16] b8_4 (k8_4 call n kn kx) (x8_4 call n kn kx)) kx)
def S8_3 (call : CL) (n : Nat) (kn : KN) (kx : KX) (y0 y1 y2 y3 y4 y5 y6 y7 y8 y9 y10 y11 y12 y13 : AV) (m : Mem) : Rho := G8_3 call n kn kx (S8_2 call n) (S8_4 call n kn kx) y0 y1 y2 y3 y4 y5 y6 y7 y8 y9 y10 y11 y12 y13 m
def d8_3 (call : CL) (n : Nat) (kn : KN) (kx : KX) (y0 y1 y2 y3 y4 y5 y6 y7 y8 y9 y10 y11 y12 y13 : AV) (m : Mem) : Rho := evK call n b8_3 [(0, y0), (1, y1), (2, y2), (7, y3), (8, y4), (9, y5), (10, y6), (11, y7), (12, y8), (13, y9), (14, y10), (15, y11), (16, y12), (17, y13)] m (k8_3 call n kn kx) (x8_3 call n kn kx)
theorem l8_3 {call : CL} {n : Nat} {kn : KN} {kx : KX} : d8_3 call n kn kx = S8_3 call n kn kx := by
  funext y0 y1 y2 y3 y4 y5 y6 y7 y8 y9 y10 y11 y12 y13 m
  have h : d8_3 call n kn kx y0 y1 y2 y3 y4 y5 y6 y7 y8 y9 y10 y11 y12 y13 m = G8_3 call n kn kx (d8_2 call n) (d8_4 call n kn kx) y0 y1 y2 y3 y4 y5 y6 y7 y8 y9 y10 y11 y12 y13 m := Eq.mp (by kernel_rfl) (g8_3 call n kn kx b8_2 b8_4 (k8_4 call n kn kx) (x8_4 call n kn kx) y0 y1 y2 y3 y4 y5 y6 y7 y8 y9 y10 y11 y12 y13 m)
  rw [l8_2, l8_4] at h; exact h
def G8_5 (call : CL) (n : Nat) (kn : KN) (kx : KX) (Q8_3 : AV → AV → Y12) (y0 y1 y2 y3 y4 y5 y6 y7 y8 y9 y10 y11 y12 : AV) (m : Mem) : Rho :=
  vK (aIndexAddr m 1 y11 y12) m fun a0 m1 =>
  loadK none a0 m1 fun a2 m3 =>
  callK call (.func 40 [] []) false [y9, a2] m3 fun a4 m5 =>
  callK call (.func 41 [] []) false [y0, y2, a2] m5 fun a6 m7 =>
  eqvK ⟨[.b], false⟩ true a4 a6 fun a8 =>
  gK a8 false (fun k => k y10 m7) m7 fun a9 m10 =>
  gK a8 false (fun k => k a2 m10) m10 fun a11 m12 =>
  gK a8 false (fun k => callK call (.func 40 [] []) false [a9, a11] m12 fun a13 m14 =>
  k a13 m14) m12 fun a15 m16 =>
  gK a8 false (fun k => k y2 m16) m16 fun a17 m18 =>
  gK a8 false (fun k => k a2 m18) m18 fun a19 m20 =>
  gK a8 false (fun k => callK call (.func 40 [] []) false [a17, a19] m20 fun a21 m22 =>
  k a21 m22) m20 fun a23 m24 =>
  gK a8 false (fun k => eqvK ⟨[.b], false⟩ true a15 a23 fun a25 =>
  k a25 m24) m24 fun a26 m27 =>
  pickK a8 (some (.bool true)) (some a26) fun a28 =>
  condK a28
  (kx .ret [(6, (.bool false))] m27)
  (Q8_3 y0 y1 y2 y3 y4 y5 y6 y7 y8 y9 y10 y11 y12 a2 m27)
theorem g8_5 (call : CL) (n : Nat) (kn : KN) (kx : KX) (b8_3 : C) (b8_4 : C) (y0 y1 y2 y3 y4 y5 y6 y7 y8 y9 y10 y11 y12 : AV) (m : Mem) : evK call n (c8_5 b8_3 b8_4) [(0, y0), (1, y1), (2, y2), (7, y3), (8, y4), (9, y5), (10, y6), (11, y7), (12, y8), (13, y9), (14, y10), (15, y11), (16, y12)] m kn kx = G8_5 call n kn kx (fun x0 x1 x2 x3 x4 x5 x6 x7 x8 x9 x10 x11 x12 x13 m => evK call n b8_3 [(0, x0), (1, x1), (2, x2), (7, x3), (8, x4), (9, x5), (10, x6), (11, x7), (12, x8), (13, x9), (14, x10), (15, x11), (16, x12), (17, x13)] m (jn call n [0, 1, 2, 7, 8, 9, 10, 11, 12, 13, 14, 15, 16] b8_4 kn kx) (blkK 1 (jn call n [0, 1, 2, 7, 8, 9, 10, 11, 12, 13, 14, 15, 16] b8_4 kn kx) kx)) y0 y1 y2 y3 y4 y5 y6 y7 y8 y9 y10 y11 y12 m := by kernel_rfl
def k8_5 (call : CL) (n : Nat) (kn : KN) (kx : KX) : KN := kn
def x8_5 (call : CL) (n : Nat) (kn : KN) (kx : KX) : KX := kx
def S8_5 (call : CL) (n : Nat) (kn : KN) (kx : KX) (y0 y1 y2 y3 y4 y5 y6 y7 y8 y9 y10 y11 y12 : AV) (m : Mem) : Rho := G8_5 call n kn kx (S8_3 call n kn kx) y0 y1 y2 y3 y4 y5 y6 y7 y8 y9 y10 y11 y12 m
def d8_5 (call : CL) (n : Nat) (kn : KN) (kx : KX) (y0 y1 y2 y3 y4 y5 y6 y7 y8 y9 y10 y11 y12 : AV) (m : Mem) : Rho := evK call n b8_5 [(0, y0), (1, y1), (2, y2), (7, y3), (8, y4), (9, y5), (10, y6), (11, y7), (12, y8), (13, y9), (14, y10), (15, y11), (16, y12)] m (k8_5 call n kn kx) (x8_5 call n kn kx)
theorem l8_5 {call : CL} {n : Nat} {kn : KN} {kx : KX} : d8_5 call n kn kx = S8_5 call n kn kx := by
  funext y0 y1 y2 y3 y4 y5 y6 y7 y8 y9 y10 y11 y12 m
  have h : d8_5 call n kn kx y0 y1 y2 y3 y4 y5 y6 y7 y8 y9 y10 y11 y12 m = G8_5 call n kn kx (d8_3 call n kn kx) y0 y1 y2 y3 y4 y5 y6 y7 y8 y9 y10 y11 y12 m := Eq.mp (by kernel_rfl) (g8_5 call n kn kx b8_3 b8_4 y0 y1 y2 y3 y4 y5 y6 y7 y8 y9 y10 y11 y12 m)
  rw [l8_3] at h; exact h
def G8_6 (call : CL) (n : Nat) (kn : KN) (kx : KX) (Q8_5 : AV → Y12) (y0 y1 y2 y3 y4 y5 y6 y7 y8 y9 y10 y11 y12 : AV) (m : Mem) : Rho :=
  vK (aLen m 1 y11) m fun a0 m1 =>
  binK .lss y12 a0 fun a2 =>
  condK a2
  (Q8_5 y0 y1 y2 y3 y4 y5 y6 y7 y8 y9 y10 y11 y12 m1)
  (kx (.ext 0) [(0, y0), (1, y1), (2, y2), (7, y3), (8, y4), (9, y5), (10, y6), (11, y7), (12, y8), (13, y9), (14, y10), (15, y11), (16, y12), (89, a2)] m1)
theorem g8_6 (call : CL) (n : Nat) (kn : KN) (kx : KX) (b8_5 : C) (y0 y1 y2 y3 y4 y5 y6 y7 y8 y9 y10 y11 y12 : AV) (m : Mem) : evK call n (c8_6 b8_5) [(0, y0), (1, y1), (2, y2), (7, y3), (8, y4), (9, y5), (10, y6), (11, y7), (12, y8), (13, y9), (14, y10), (15, y11), (16, y12)] m kn kx = G8_6 call n kn kx (fun x0 x1 x2 x3 x4 x5 x6 x7 x8 x9 x10 x11 x12 m => evK call n b8_5 [(0, x0), (1, x1), (2, x2), (7, x3), (8, x4), (9, x5), (10, x6), (11, x7), (12, x8), (13, x9), (14, x10), (15, x11), (16, x12)] m kn kx) y0 y1 y2 y3 y4 y5 y6 y7 y8 y9 y10 y11 y12 m := by kernel_rfl
def S8_6 (call : CL) (n : Nat) (kn : KN) (kx : KX) (y0 y1 y2 y3 y4 y5 y6 y7 y8 y9 y10 y11 y12 : AV) (m : Mem) : Rho := G8_6 call n kn kx (S8_5 call n kn kx) y0 y1 y2 y3 y4 y5 y6 y7 y8 y9 y10 y11 y12 m
def d8_6 (call : CL) (n : Nat) (kn : KN) (kx : KX) (y0 y1 y2 y3 y4 y5 y6 y7 y8 y9 y10 y11 y12 : AV) (m : Mem) : Rho := evK call n b8_6 [(0, y0), (1, y1), (2, y2), (7, y3), (8, y4), (9, y5), (10, y6), (11, y7), (12, y8), (13, y9), (14, y10), (15, y11), (16, y12)] m kn kx
theorem l8_6 {call : CL} {n : Nat} : d8_6 call n = S8_6 call n := by
  funext kn kx y0 y1 y2 y3 y4 y5 y6 y7 y8 y9 y10 y11 y12 m
  have h : d8_6 call n kn kx y0 y1 y2 y3 y4 y5 y6 y7 y8 y9 y10 y11 y12 m = G8_6 call n kn kx (d8_5 call n kn kx) y0 y1 y2 y3 y4 y5 y6 y7 y8 y9 y10 y11 y12 m := Eq.mp (by kernel_rfl) (g8_6 call n kn kx b8_5 y0 y1 y2 y3 y4 y5 y6 y7 y8 y9 y10 y11 y12 m)
  rw [l8_5] at h; exact h
def G8_23 (call : CL) (n : Nat) (m0 : Mem) (B8_6 : KN → KX → AV → Y12) (Q8_22 : Y5) (y0 y1 y2 y3 y4 y5 y6 y7 y8 y9 y10 : AV) (m : Mem) : Rho :=
  callK call (.func 39 [] []) false [y0, y1, y2] m fun a0 m1 =>
  loopV [0, 1, 2, 7, 8, 9, 10, 11, 12, 13, 14, 15, 16] none (fun vs m kn kx => unc vs fun x0 vs => unc vs fun x1 vs => unc vs fun x2 vs => unc vs fun x3 vs => unc vs fun x4 vs => unc vs fun x5 vs => unc vs fun x6 vs => unc vs fun x7 vs => unc vs fun x8 vs => unc vs fun x9 vs => unc vs fun x10 vs => unc vs fun x11 vs => unc vs fun x12 vs => unz vs (B8_6 kn kx x0 x1 x2 x3 x4 x5 x6 x7 x8 x9 x10 x11 x12 m)) (blkK 0 (fun e m => keepK e [0, 2, 7, 8, 9] fun vs => unc vs fun x0 vs => unc vs fun x1 vs => unc vs fun x2 vs => unc vs fun x3 vs => unc vs fun x4 vs => unz vs (Q8_22 x0 x1 x2 x3 x4 m)) (endK f8 m0)) n [y0, y1, y2, y3, y4, y5, y6, y7, y8, y9, y10, a0, (.int .i64 0)] m1
theorem g8_23 (call : CL) (n : Nat) (m0 : Mem) (b8_6 : C) (b8_22 : C) (y0 y1 y2 y3 y4 y5 y6 y7 y8 y9 y10 : AV) (m : Mem) : evK call n (c8_23 b8_6 b8_22) [(0, y0), (1, y1), (2, y2), (7, y3), (8, y4), (9, y5), (10, y6), (11, y7), (12, y8), (13, y9), (14, y10)] m (fun e m => endK f8 m0 .nrm e m) (endK f8 m0) = G8_23 call n m0 (fun kn kx x0 x1 x2 x3 x4 x5 x6 x7 x8 x9 x10 x11 x12 m => evK call n b8_6 [(0, x0), (1, x1), (2, x2), (7, x3), (8, x4), (9, x5), (10, x6), (11, x7), (12, x8), (13, x9), (14, x10), (15, x11), (16, x12)] m kn kx) (fun x0 x1 x2 x3 x4 m => evK call n b8_22 [(0, x0), (2, x1), (7, x2), (8, x3), (9, x4)] m (fun e m => endK f8 m0 .nrm e m) (endK f8 m0)) y0 y1 y2 y3 y4 y5 y6 y7 y8 y9 y10 m := by kernel_rfl
def k8_23 (call : CL) (n : Nat) (m0 : Mem) : KN := (fun e m => endK f8 m0 .nrm e m)
def x8_23 (call : CL) (n : Nat) (m0 : Mem) : KX := (endK f8 m0)
def S8_23 (call : CL) (n : Nat) (m0 : Mem) (y0 y1 y2 y3 y4 y5 y6 y7 y8 y9 y10 : AV) (m : Mem) : Rho := G8_23 call n m0 (S8_6 call n) (S8_22 call n m0) y0 y1 y2 y3 y4 y5 y6 y7 y8 y9 y10 m
def d8_23 (call : CL) (n : Nat) (m0 : Mem) (y0 y1 y2 y3 y4 y5 y6 y7 y8 y9 y10 : AV) (m : Mem) : Rho := evK call n b8_23 [(0, y0), (1, y1), (2, y2), (7, y3), (8, y4), (9, y5), (10, y6), (11, y7), (12, y8), (13, y9), (14, y10)] m (k8_23 call n m0) (x8_23 call n m0)
theorem l8_23 {call : CL} {n : Nat} {m0 : Mem} : d8_23 call n m0 = S8_23 call n m0 := by
  funext y0 y1 y2 y3 y4 y5 y6 y7 y8 y9 y10 m
  have h : d8_23 call n m0 y0 y1 y2 y3 y4 y5 y6 y7 y8 y9 y10 m = G8_23 call n m0 (d8_6 call n) (d8_22 call n m0) y0 y1 y2 y3 y4 y5 y6 y7 y8 y9 y10 m := Eq.mp (by kernel_rfl) (g8_23 call n m0 b8_6 b8_22 y0 y1 y2 y3 y4 y5 y6 y7 y8 y9 y10 m)
  rw [l8_6, l8_22] at h; exact h
def G8_24 (call : CL) (n : Nat) (m0 : Mem) (Q8_23 : Y11) (y0 y1 y2 : AV) (m : Mem) : Rho :=
  appendK 2 16 0 (.list .full 0 []) y0 m fun a0 m1 =>
  appendK 1 8 0 (.list .full 0 []) y2 m1 fun a2 m3 =>
  callK call (.func 32 [] []) false [y0] m3 fun a4 m5 =>
  callK call (.func 33 [] []) false [y0, y1] m5 fun a6 m7 =>
  callK call (.func 34 [] []) false [y0, y2] m7 fun a8 m9 =>
  callK call (.func 35 [] []) false [y0, y2] m9 fun a10 m11 =>
  callK call (.func 36 [] []) false [y0, y2] m11 fun a12 m13 =>
  callK call (.func 37 [] []) false [y2] m13 fun a14 m15 =>
  callK call (.func 30 [] []) false [a4] m15 fun a16 m17 =>
  unK .not a16 fun a18 =>
  gK a18 false (fun k => k a6 m17) m17 fun a19 m20 =>
  gK a18 false (fun k => callK call (.func 30 [] []) false [a19] m20 fun a21 m22 =>
  k a21 m22) m20 fun a23 m24 =>
  gK a18 false (fun k => unK .not a23 fun a25 =>
  k a25 m24) m24 fun a26 m27 =>
  pickK a18 (some (.bool true)) (some a26) fun a28 =>
  gK a28 false (fun k => k a8 m27) m27 fun a29 m30 =>
  gK a28 false (fun k => callK call (.func 30 [] []) false [a29] m30 fun a31 m32 =>
  k a31 m32) m30 fun a33 m34 =>
  gK a28 false (fun k => unK .not a33 fun a35 =>
  k a35 m34) m34 fun a36 m37 =>
  pickK a28 (some (.bool true)) (some a36) fun a38 =>
  gK a38 false (fun k => k a10 m37) m37 fun a39 m40 =>
  gK a38 false (fun k => callK call (.func 30 [] []) false [a39] m40 fun a41 m42 =>
  k a41 m42) m40 fun a43 m44 =>
  gK a38 false (fun k => unK .not a43 fun a45 =>
  k a45 m44) m44 fun a46 m47 =>
  pickK a38 (some (.bool true)) (some a46) fun a48 =>
  gK a48 false (fun k => k a12 m47) m47 fun a49 m50 =>
  gK a48 false (fun k => callK call (.func 38 [] []) false [a49] m50 fun a51 m52 =>
  k a51 m52) m50 fun a53 m54 =>
  gK a48 false (fun k => unK .not a53 fun a55 =>
  k a55 m54) m54 fun a56 m57 =>
  pickK a48 (some (.bool true)) (some a56) fun a58 =>
  gK a58 false (fun k => k a14 m57) m57 fun a59 m60 =>
  gK a58 false (fun k => callK call (.func 38 [] []) false [a59] m60 fun a61 m62 =>
  k a61 m62) m60 fun a63 m64 =>
  gK a58 false (fun k => unK .not a63 fun a65 =>
  k a65 m64) m64 fun a66 m67 =>
  pickK a58 (some (.bool true)) (some a66) fun a68 =>
  condK a68
  (retK false false m0 [(.bool false)] m67)
  (Q8_23 y0 y1 y2 a0 a2 a4 a6 a8 a10 a12 a14 m67)
theorem g8_24 (call : CL) (n : Nat) (m0 : Mem) (b8_23 : C) (y0 y1 y2 : AV) (m : Mem) : evK call n (c8_24 b8_23) [(0, y0), (1, y1), (2, y2)] m (fun e m => endK f8 m0 .nrm e m) (endK f8 m0) = G8_24 call n m0 (fun x0 x1 x2 x3 x4 x5 x6 x7 x8 x9 x10 m => evK call n b8_23 [(0, x0), (1, x1), (2, x2), (7, x3), (8, x4), (9, x5), (10, x6), (11, x7), (12, x8), (13, x9), (14, x10)] m (fun e m => endK f8 m0 .nrm e m) (endK f8 m0)) y0 y1 y2 m := by kernel_rfl
def k8_24 (call : CL) (n : Nat) (m0 : Mem) : KN := (fun e m => endK f8 m0 .nrm e m)
def x8_24 (call : CL) (n : Nat) (m0 : Mem) : KX := (endK f8 m0)
def S8_24 (call : CL) (n : Nat) (m0 : Mem) (y0 y1 y2 : AV) (m : Mem) : Rho := G8_24 call n m0 (S8_23 call n m0) y0 y1 y2 m
def d8_24 (call : CL) (n : Nat) (m0 : Mem) (y0 y1 y2 : AV) (m : Mem) : Rho := evK call n b8_24 [(0, y0), (1, y1), (2, y2)] m (k8_24 call n m0) (x8_24 call n m0)
theorem l8_24 {call : CL} {n : Nat} {m0 : Mem} : d8_24 call n m0 = S8_24 call n m0 := by
  funext y0 y1 y2 m
  have h : d8_24 call n m0 y0 y1 y2 m = G8_24 call n m0 (d8_23 call n m0) y0 y1 y2 m := Eq.mp (by kernel_rfl) (g8_24 call n m0 b8_23 y0 y1 y2 m)
  rw [l8_23] at h; exact h
def G8 (call : CL) (n : Nat) (m0 : Mem) (Q8_24 : Y3) (y0 y1 y2 : AV) (m : Mem) : Rho :=
  vK (aLen m 1 y0) m fun a0 m1 =>
  vK (aLen m1 1 y1) m1 fun a2 m3 =>
  vK (aLen m3 1 y2) m3 fun a4 m5 =>
  buildSliceK 1 [(.int .i64 0)] 3 false [(0 * 1, 1, AV.untag a0), (1 * 1, 1, AV.untag a2), (2 * 1, 1, AV.untag a4)] m5 fun a6 m7 =>
  callK call (.func 27 [] []) false [a6] m7 fun a8 m9 =>
  condK a8
  (callK call (.func 28 [] []) false [] m9 fun a10 m11 =>
  retK false false m0 [a10] m11)
  (Q8_24 y0 y1 y2 m9)
theorem g8 (call : CL) (n : Nat) (m0 : Mem) (b8_24 : C) (y0 y1 y2 : AV) (m : Mem) : evK call n (c8 b8_24) [(0, y0), (1, y1), (2, y2)] m (fun e m => endK f8 m0 .nrm e m) (endK f8 m0) = G8 call n m0 (fun x0 x1 x2 m => evK call n b8_24 [(0, x0), (1, x1), (2, x2)] m (fun e m => endK f8 m0 .nrm e m) (endK f8 m0)) y0 y1 y2 m := by kernel_rfl
def S8 (call : CL) (n : Nat) (m0 : Mem) (y0 y1 y2 : AV) : Rho := G8 call n m0 (S8_24 call n m0) y0 y1 y2 { m0 with bad := none }
theorem s8 (call : CL) (n : Nat) (m0 : Mem) (y0 y1 y2 : AV) : bodyK call n f8 [y0, y1, y2] m0 = S8 call n m0 y0 y1 y2 :=
  have h : bodyK call n f8 [y0, y1, y2] m0 = G8 call n m0 (d8_24 call n m0) y0 y1 y2 { m0 with bad := none } := Eq.mp (by kernel_rfl) (g8 call n m0 b8_24 y0 y1 y2 { m0 with bad := none })
  by rw [l8_24] at h; exact h
def F8 : SF := fun call n vs m0 => unc vs fun x0 vs => unc vs fun x1 vs => unc vs fun x2 vs => unz vs (S8 call n m0 x0 x1 x2)
theorem F8_ok {orc : List AV → Mem → Option (AV × Mem)} : SOk 8 { f8 with orc := orc } F8 := by
  intro call n vs m0 ho r h0
  simp only [F8] at h0
  obtain ⟨y0, v0, rfl, h1⟩ := unc_some h0
  obtain ⟨y1, v1, rfl, h2⟩ := unc_some h1
  obtain ⟨y2, v2, rfl, h3⟩ := unc_some h2
  obtain ⟨rfl, hz⟩ := unz_some h3
  exact bodyK_le ho rfl r (Eq.mp (by kernel_rfl) ((s8 call n m0 y0 y1 y2).trans hz))

-- resolvent/resolventlaw17.PairsGrow
def G9_10 (call : CL) (n : Nat) (m0 : Mem) (y0 y1 y2 : AV) (m : Mem) : Rho :=
  callK call (.func 35 [] []) false [y0, y1] m fun a0 m1 =>
  callK call (.func 43 [] []) false [a0, y2] m1 fun a2 m3 =>
  gK a2 true (fun k => callK call (.func 28 [] []) false [] m3 fun a4 m5 =>
  k a4 m5) m3 fun a6 m7 =>
  pickK a2 (some a6) (some (.bool false)) fun a8 =>
  retK false false m0 [a8] m7
theorem g9_10 (call : CL) (n : Nat) (m0 : Mem) (y0 y1 y2 : AV) (m : Mem) : evK call n b9_10 [(0, y0), (2, y1), (17, y2)] m (fun e m => endK f9 m0 .nrm e m) (endK f9 m0) = G9_10 call n m0 y0 y1 y2 m := by kernel_rfl
def k9_10 (call : CL) (n : Nat) (m0 : Mem) : KN := (fun e m => endK f9 m0 .nrm e m)
def x9_10 (call : CL) (n : Nat) (m0 : Mem) : KX := (endK f9 m0)
def S9_10 (call : CL) (n : Nat) (m0 : Mem) (y0 y1 y2 : AV) (m : Mem) : Rho := G9_10 call n m0 y0 y1 y2 m
def d9_10 (call : CL) (n : Nat) (m0 : Mem) (y0 y1 y2 : AV) (m : Mem) : Rho := evK call n b9_10 [(0, y0), (2, y1), (17, y2)] m (k9_10 call n m0) (x9_10 call n m0)
theorem l9_10 {call : CL} {n : Nat} {m0 : Mem} : d9_10 call n m0 = S9_10 call n m0 := by
  funext y0 y1 y2 m
  have h : d9_10 call n m0 y0 y1 y2 m = G9_10 call n m0 y0 y1 y2 m := Eq.mp (by kernel_rfl) (g9_10 call n m0 y0 y1 y2 m)
  exact h
def G9_7 (call : CL) (n : Nat) (kn : KN) (kx : KX) (y0 y1 y2 y3 y4 y5 : AV) (m : Mem) : Rho :=
  binK .add y5 (.int .i64 1) fun a0 =>
  kn [(0, y0), (2, y1), (10, y2), (16, y3), (17, y4), (18, a0)] m
theorem g9_7 (call : CL) (n : Nat) (kn : KN) (kx : KX) (y0 y1 y2 y3 y4 y5 : AV) (m : Mem) : evK call n b9_7 [(0, y0), (2, y1), (10, y2), (16, y3), (17, y4), (18, y5)] m kn kx = G9_7 call n kn kx y0 y1 y2 y3 y4 y5 m := by kernel_rfl
def k9_7 (call : CL) (n : Nat) (kn : KN) (kx : KX) : KN := kn
def x9_7 (call : CL) (n : Nat) (kn : KN) (kx : KX) : KX := kx
def S9_7 (call : CL) (n : Nat) (kn : KN) (kx : KX) (y0 y1 y2 y3 y4 y5 : AV) (m : Mem) : Rho := G9_7 call n kn kx y0 y1 y2 y3 y4 y5 m
def d9_7 (call : CL) (n : Nat) (kn : KN) (kx : KX) (y0 y1 y2 y3 y4 y5 : AV) (m : Mem) : Rho := evK call n b9_7 [(0, y0), (2, y1), (10, y2), (16, y3), (17, y4), (18, y5)] m (k9_7 call n kn kx) (x9_7 call n kn kx)
theorem l9_7 {call : CL} {n : Nat} {kn : KN} {kx : KX} : d9_7 call n kn kx = S9_7 call n kn kx := by
  funext y0 y1 y2 y3 y4 y5 m
  have h : d9_7 call n kn kx y0 y1 y2 y3 y4 y5 m = G9_7 call n kn kx y0 y1 y2 y3 y4 y5 m := Eq.mp (by kernel_rfl) (g9_7 call n kn kx y0 y1 y2 y3 y4 y5 m)
  exact h
def G9_6 (call : CL) (n : Nat) (kn : KN) (kx : KX) (Q9_7 : Y6) (y0 y1 y2 y3 y4 y5 : AV) (m : Mem) : Rho :=
  binK .add y5 (.int .i64 1) fun a0 =>
  vK (aSlice 1 y3 (some y5) (some a0)) m fun a1 m2 =>
  callK call (.func 36 [] []) false [y4, a1] m2 fun a3 m4 =>
  vK (aLen m4 1 a3) m4 fun a5 m6 =>
  binK .neq a5 (.int .i64 1) fun a7 =>
  condK a7
  (kx .ret [(8, (.bool false))] m6)
  (Q9_7 y0 y1 y2 y3 y4 y5 m6)
theorem g9_6 (call : CL) (n : Nat) (kn : KN) (kx : KX) (b9_7 : C) (k9_7 : KN) (x9_7 : KX) (y0 y1 y2 y3 y4 y5 : AV) (m : Mem) : evK call n b9_6 [(0, y0), (2, y1), (10, y2), (16, y3), (17, y4), (18, y5)] m (jn call n [0, 2, 10, 16, 17, 18] b9_7 k9_7 x9_7) (blkK 3 (jn call n [0, 2, 10, 16, 17, 18] b9_7 k9_7 x9_7) kx) = G9_6 call n kn kx (fun x0 x1 x2 x3 x4 x5 m => evK call n b9_7 [(0, x0), (2, x1), (10, x2), (16, x3), (17, x4), (18, x5)] m k9_7 x9_7) y0 y1 y2 y3 y4 y5 m := by kernel_rfl
def k9_6 (call : CL) (n : Nat) (kn : KN) (kx : KX) : KN := (jn call n [0, 2, 10, 16, 17, 18] b9_7 (k9_7 call n kn kx) (x9_7 call n kn kx))
def x9_6 (call : CL) (n : Nat) (kn : KN) (kx : KX) : KX := (blkK 3 (jn call n [0, 2, 10, 16, 17, 18] b9_7 (k9_7 call n kn kx) (x9_7 call n kn kx)) kx)
def S9_6 (call : CL) (n : Nat) (kn : KN) (kx : KX) (y0 y1 y2 y3 y4 y5 : AV) (m : Mem) : Rho := G9_6 call n kn kx (S9_7 call n kn kx) y0 y1 y2 y3 y4 y5 m
def d9_6 (call : CL) (n : Nat) (kn : KN) (kx : KX) (y0 y1 y2 y3 y4 y5 : AV) (m : Mem) : Rho := evK call n b9_6 [(0, y0), (2, y1), (10, y2), (16, y3), (17, y4), (18, y5)] m (k9_6 call n kn kx) (x9_6 call n kn kx)
theorem l9_6 {call : CL} {n : Nat} {kn : KN} {kx : KX} : d9_6 call n kn kx = S9_6 call n kn kx := by
  funext y0 y1 y2 y3 y4 y5 m
  have h : d9_6 call n kn kx y0 y1 y2 y3 y4 y5 m = G9_6 call n kn kx (d9_7 call n kn kx) y0 y1 y2 y3 y4 y5 m := Eq.mp (by kernel_rfl) (g9_6 call n kn kx b9_7 (k9_7 call n kn kx) (x9_7 call n kn kx) y0 y1 y2 y3 y4 y5 m)
  rw [l9_7] at h; exact h
def G9_3 (call : CL) (n : Nat) (kn : KN) (kx : KX) (y0 y1 y2 y3 y4 y5 y6 y7 : AV) (m : Mem) : Rho :=
  binK .add y7 (.int .i64 1) fun a0 =>
  kn [(0, y0), (2, y1), (10, y2), (16, y3), (17, y4), (18, y5), (19, y6), (20, a0)] m
theorem g9_3 (call : CL) (n : Nat) (kn : KN) (kx : KX) (y0 y1 y2 y3 y4 y5 y6 y7 : AV) (m : Mem) : evK call n b9_3 [(0, y0), (2, y1), (10, y2), (16, y3), (17, y4), (18, y5), (19, y6), (20, y7)] m kn kx = G9_3 call n kn kx y0 y1 y2 y3 y4 y5 y6 y7 m := by kernel_rfl
def k9_3 (call : CL) (n : Nat) (kn : KN) (kx : KX) : KN := kn
def x9_3 (call : CL) (n : Nat) (kn : KN) (kx : KX) : KX := kx
def S9_3 (call : CL) (n : Nat) (kn : KN) (kx : KX) (y0 y1 y2 y3 y4 y5 y6 y7 : AV) (m : Mem) : Rho := G9_3 call n kn kx y0 y1 y2 y3 y4 y5 y6 y7 m
def d9_3 (call : CL) (n : Nat) (kn : KN) (kx : KX) (y0 y1 y2 y3 y4 y5 y6 y7 : AV) (m : Mem) : Rho := evK call n b9_3 [(0, y0), (2, y1), (10, y2), (16, y3), (17, y4), (18, y5), (19, y6), (20, y7)] m (k9_3 call n kn kx) (x9_3 call n kn kx)
theorem l9_3 {call : CL} {n : Nat} {kn : KN} {kx : KX} : d9_3 call n kn kx = S9_3 call n kn kx := by
  funext y0 y1 y2 y3 y4 y5 y6 y7 m
  have h : d9_3 call n kn kx y0 y1 y2 y3 y4 y5 y6 y7 m = G9_3 call n kn kx y0 y1 y2 y3 y4 y5 y6 y7 m := Eq.mp (by kernel_rfl) (g9_3 call n kn kx y0 y1 y2 y3 y4 y5 y6 y7 m)
  exact h
def G9_4 (call : CL) (n : Nat) (kn : KN) (kx : KX) (Q9_3 : Y8) (y0 y1 y2 y3 y4 y5 y6 y7 : AV) (m : Mem) : Rho :=
  vK (aIndexAddr m 1 y3 y7) m fun a0 m1 =>
  loadK none a0 m1 fun a2 m3 =>
  callK call (.func 40 [] []) false [y6, a2] m3 fun a4 m5 =>
  unK .not a4 fun a6 =>
  condK a6
  (kx .ret [(8, (.bool false))] m5)
  (Q9_3 y0 y1 y2 y3 y4 y5 y6 y7 m5)
theorem g9_4 (call : CL) (n : Nat) (kn : KN) (kx : KX) (b9_3 : C) (y0 y1 y2 y3 y4 y5 y6 y7 : AV) (m : Mem) : evK call n (c9_4 b9_3) [(0, y0), (2, y1), (10, y2), (16, y3), (17, y4), (18, y5), (19, y6), (20, y7)] m kn kx = G9_4 call n kn kx (fun x0 x1 x2 x3 x4 x5 x6 x7 m => evK call n b9_3 [(0, x0), (2, x1), (10, x2), (16, x3), (17, x4), (18, x5), (19, x6), (20, x7)] m kn kx) y0 y1 y2 y3 y4 y5 y6 y7 m := by kernel_rfl
def k9_4 (call : CL) (n : Nat) (kn : KN) (kx : KX) : KN := kn
def x9_4 (call : CL) (n : Nat) (kn : KN) (kx : KX) : KX := kx
def S9_4 (call : CL) (n : Nat) (kn : KN) (kx : KX) (y0 y1 y2 y3 y4 y5 y6 y7 : AV) (m : Mem) : Rho := G9_4 call n kn kx (S9_3 call n kn kx) y0 y1 y2 y3 y4 y5 y6 y7 m
def d9_4 (call : CL) (n : Nat) (kn : KN) (kx : KX) (y0 y1 y2 y3 y4 y5 y6 y7 : AV) (m : Mem) : Rho := evK call n b9_4 [(0, y0), (2, y1), (10, y2), (16, y3), (17, y4), (18, y5), (19, y6), (20, y7)] m (k9_4 call n kn kx) (x9_4 call n kn kx)
theorem l9_4 {call : CL} {n : Nat} {kn : KN} {kx : KX} : d9_4 call n kn kx = S9_4 call n kn kx := by
  funext y0 y1 y2 y3 y4 y5 y6 y7 m
  have h : d9_4 call n kn kx y0 y1 y2 y3 y4 y5 y6 y7 m = G9_4 call n kn kx (d9_3 call n kn kx) y0 y1 y2 y3 y4 y5 y6 y7 m := Eq.mp (by kernel_rfl) (g9_4 call n kn kx b9_3 y0 y1 y2 y3 y4 y5 y6 y7 m)
  rw [l9_3] at h; exact h
def G9_5 (call : CL) (n : Nat) (kn : KN) (kx : KX) (Q9_4 : Y8) (y0 y1 y2 y3 y4 y5 y6 y7 : AV) (m : Mem) : Rho :=
  vK (aLen m 1 y3) m fun a0 m1 =>
  binK .lss y7 a0 fun a2 =>
  condK a2
  (Q9_4 y0 y1 y2 y3 y4 y5 y6 y7 m1)
  (kx (.ext 4) [(0, y0), (2, y1), (10, y2), (16, y3), (17, y4), (18, y5), (19, y6), (20, y7), (132, a2)] m1)
theorem g9_5 (call : CL) (n : Nat) (kn : KN) (kx : KX) (b9_4 : C) (y0 y1 y2 y3 y4 y5 y6 y7 : AV) (m : Mem) : evK call n (c9_5 b9_4) [(0, y0), (2, y1), (10, y2), (16, y3), (17, y4), (18, y5), (19, y6), (20, y7)] m kn kx = G9_5 call n kn kx (fun x0 x1 x2 x3 x4 x5 x6 x7 m => evK call n b9_4 [(0, x0), (2, x1), (10, x2), (16, x3), (17, x4), (18, x5), (19, x6), (20, x7)] m kn kx) y0 y1 y2 y3 y4 y5 y6 y7 m := by kernel_rfl
def S9_5 (call : CL) (n : Nat) (kn : KN) (kx : KX) (y0 y1 y2 y3 y4 y5 y6 y7 : AV) (m : Mem) : Rho := G9_5 call n kn kx (S9_4 call n kn kx) y0 y1 y2 y3 y4 y5 y6 y7 m
def d9_5 (call : CL) (n : Nat) (kn : KN) (kx : KX) (y0 y1 y2 y3 y4 y5 y6 y7 : AV) (m : Mem) : Rho := evK call n b9_5 [(0, y0), (2, y1), (10, y2), (16, y3), (17, y4), (18, y5), (19, y6), (20, y7)] m kn kx
theorem l9_5 {call : CL} {n : Nat} : d9_5 call n = S9_5 call n := by
  funext kn kx y0 y1 y2 y3 y4 y5 y6 y7 m
  have h : d9_5 call n kn kx y0 y1 y2 y3 y4 y5 y6 y7 m = G9_5 call n kn kx (d9_4 call n kn kx) y0 y1 y2 y3 y4 y5 y6 y7 m := Eq.mp (by kernel_rfl) (g9_5 call n kn kx b9_4 y0 y1 y2 y3 y4 y5 y6 y7 m)
  rw [l9_4] at h; exact h
def G9_8 (call : CL) (n : Nat) (kn : KN) (kx : KX) (B9_5 : KN → KX → Y8) (Q9_6 : Y6) (Q9_7 : Y6) (y0 y1 y2 y3 y4 y5 : AV) (m : Mem) : Rho :=
  binK .add y5 (.int .i64 1) fun a0 =>
  vK (aSlice 1 y3 (some y5) (some a0)) m fun a1 m2 =>
  callK call (.func 36 [] []) false [y2, a1] m2 fun a3 m4 =>
  loopV [0, 2, 10, 16, 17, 18, 19, 20] none (fun vs m kn kx => unc vs fun x0 vs => unc vs fun x1 vs => unc vs fun x2 vs => unc vs fun x3 vs => unc vs fun x4 vs => unc vs fun x5 vs => unc vs fun x6 vs => unc vs fun x7 vs => unz vs (B9_5 kn kx x0 x1 x2 x3 x4 x5 x6 x7 m)) (blkK 4 (fun e m => keepK e [0, 2, 10, 16, 17, 18] fun vs => unc vs fun x0 vs => unc vs fun x1 vs => unc vs fun x2 vs => unc vs fun x3 vs => unc vs fun x4 vs => unc vs fun x5 vs => unz vs (Q9_6 x0 x1 x2 x3 x4 x5 m)) (blkK 3 (fun e m => keepK e [0, 2, 10, 16, 17, 18] fun vs => unc vs fun x0 vs => unc vs fun x1 vs => unc vs fun x2 vs => unc vs fun x3 vs => unc vs fun x4 vs => unc vs fun x5 vs => unz vs (Q9_7 x0 x1 x2 x3 x4 x5 m)) kx)) n [y0, y1, y2, y3, y4, y5, a3, (.int .i64 0)] m4
theorem g9_8 (call : CL) (n : Nat) (kn : KN) (kx : KX) (b9_5 : C) (b9_6 : C) (b9_7 : C) (y0 y1 y2 y3 y4 y5 : AV) (m : Mem) : evK call n (c9_8 b9_5 b9_6 b9_7) [(0, y0), (2, y1), (10, y2), (16, y3), (17, y4), (18, y5)] m kn kx = G9_8 call n kn kx (fun kn kx x0 x1 x2 x3 x4 x5 x6 x7 m => evK call n b9_5 [(0, x0), (2, x1), (10, x2), (16, x3), (17, x4), (18, x5), (19, x6), (20, x7)] m kn kx) (fun x0 x1 x2 x3 x4 x5 m => evK call n b9_6 [(0, x0), (2, x1), (10, x2), (16, x3), (17, x4), (18, x5)] m (jn call n [0, 2, 10, 16, 17, 18] b9_7 kn kx) (blkK 3 (jn call n [0, 2, 10, 16, 17, 18] b9_7 kn kx) kx)) (fun x0 x1 x2 x3 x4 x5 m => evK call n b9_7 [(0, x0), (2, x1), (10, x2), (16, x3), (17, x4), (18, x5)] m kn kx) y0 y1 y2 y3 y4 y5 m := by kernel_rfl
def k9_8 (call : CL) (n : Nat) (kn : KN) (kx : KX) : KN := kn
def x9_8 (call : CL) (n : Nat) (kn : KN) (kx : KX) : KX := kx
def S9_8 (call : CL) (n : Nat) (kn : KN) (kx : KX) (y0 y1 y2 y3 y4 y5 : AV) (m : Mem) : Rho := G9_8 call n kn kx (S9_5 call n) (S9_6 call n kn kx) (S9_7 call n kn kx) y0 y1 y2 y3 y4 y5 m
def d9_8 (call : CL) (n : Nat) (kn : KN) (kx : KX) (y0 y1 y2 y3 y4 y5 : AV) (m : Mem) : Rho := evK call n b9_8 [(0, y0), (2, y1), (10, y2), (16, y3), (17, y4), (18, y5)] m (k9_8 call n kn kx) (x9_8 call n kn kx)
theorem l9_8 {call : CL} {n : Nat} {kn : KN} {kx : KX} : d9_8 call n kn kx = S9_8 call n kn kx := by
  funext y0 y1 y2 y3 y4 y5 m
  have h : d9_8 call n kn kx y0 y1 y2 y3 y4 y5 m = G9_8 call n kn kx (d9_5 call n) (d9_6 call n kn kx) (d9_7 call n kn kx) y0 y1 y2 y3 y4 y5 m := Eq.mp (by kernel_rfl) (g9_8 call n kn kx b9_5 b9_6 b9_7 y0 y1 y2 y3 y4 y5 m)
  rw [l9_5, l9_6, l9_7] at h; exact h
def G9_9 (call : CL) (n : Nat) (kn : KN) (kx : KX) (Q9_8 : Y6) (y0 y1 y2 y3 y4 y5 : AV) (m : Mem) : Rho :=
  vK (aLen m 1 y3) m fun a0 m1 =>
  binK .lss y5 a0 fun a2 =>
  condK a2
  (Q9_8 y0 y1 y2 y3 y4 y5 m1)
  (kx (.ext 2) [(0, y0), (2, y1), (10, y2), (16, y3), (17, y4), (18, y5), (119, a2)] m1)
theorem g9_9 (call : CL) (n : Nat) (kn : KN) (kx : KX) (b9_8 : C) (y0 y1 y2 y3 y4 y5 : AV) (m : Mem) : evK call n (c9_9 b9_8) [(0, y0), (2, y1), (10, y2), (16, y3), (17, y4), (18, y5)] m kn kx = G9_9 call n kn kx (fun x0 x1 x2 x3 x4 x5 m => evK call n b9_8 [(0, x0), (2, x1), (10, x2), (16, x3), (17, x4), (18, x5)] m kn kx) y0 y1 y2 y3 y4 y5 m := by kernel_rfl
def S9_9 (call : CL) (n : Nat) (kn : KN) (kx : KX) (y0 y1 y2 y3 y4 y5 : AV) (m : Mem) : Rho := G9_9 call n kn kx (S9_8 call n kn kx) y0 y1 y2 y3 y4 y5 m
def d9_9 (call : CL) (n : Nat) (kn : KN) (kx : KX) (y0 y1 y2 y3 y4 y5 : AV) (m : Mem) : Rho := evK call n b9_9 [(0, y0), (2, y1), (10, y2), (16, y3), (17, y4), (18, y5)] m kn kx
theorem l9_9 {call : CL} {n : Nat} : d9_9 call n = S9_9 call n := by
  funext kn kx y0 y1 y2 y3 y4 y5 m
  have h : d9_9 call n kn kx y0 y1 y2 y3 y4 y5 m = G9_9 call n kn kx (d9_8 call n kn kx) y0 y1 y2 y3 y4 y5 m := Eq.mp (by kernel_rfl) (g9_9 call n kn kx b9_8 y0 y1 y2 y3 y4 y5 m)
  rw [l9_8] at h; exact h
def G9_11 (call : CL) (n : Nat) (m0 : Mem) (B9_9 : KN → KX → Y6) (Q9_10 : Y3) (y0 y1 y2 : AV) (m : Mem) : Rho :=
  callK call (.func 37 [] []) false [y1] m fun a0 m1 =>
  callK call (.func 35 [] []) false [y2, y1] m1 fun a2 m3 =>
  loopV [0, 2, 10, 16, 17, 18] none (fun vs m kn kx => unc vs fun x0 vs => unc vs fun x1 vs => unc vs fun x2 vs => unc vs fun x3 vs => unc vs fun x4 vs => unc vs fun x5 vs => unz vs (B9_9 kn kx x0 x1 x2 x3 x4 x5 m)) (blkK 2 (fun e m => keepK e [0, 2, 17] fun vs => unc vs fun x0 vs => unc vs fun x1 vs => unc vs fun x2 vs => unz vs (Q9_10 x0 x1 x2 m)) (endK f9 m0)) n [y0, y1, y2, a0, a2, (.int .i64 0)] m3
theorem g9_11 (call : CL) (n : Nat) (m0 : Mem) (b9_9 : C) (b9_10 : C) (y0 y1 y2 : AV) (m : Mem) : evK call n (c9_11 b9_9 b9_10) [(0, y0), (2, y1), (10, y2)] m (fun e m => endK f9 m0 .nrm e m) (endK f9 m0) = G9_11 call n m0 (fun kn kx x0 x1 x2 x3 x4 x5 m => evK call n b9_9 [(0, x0), (2, x1), (10, x2), (16, x3), (17, x4), (18, x5)] m kn kx) (fun x0 x1 x2 m => evK call n b9_10 [(0, x0), (2, x1), (17, x2)] m (fun e m => endK f9 m0 .nrm e m) (endK f9 m0)) y0 y1 y2 m := by kernel_rfl
def k9_11 (call : CL) (n : Nat) (m0 : Mem) : KN := (fun e m => endK f9 m0 .nrm e m)
def x9_11 (call : CL) (n : Nat) (m0 : Mem) : KX := (endK f9 m0)
def S9_11 (call : CL) (n : Nat) (m0 : Mem) (y0 y1 y2 : AV) (m : Mem) : Rho := G9_11 call n m0 (S9_9 call n) (S9_10 call n m0) y0 y1 y2 m
def d9_11 (call : CL) (n : Nat) (m0 : Mem) (y0 y1 y2 : AV) (m : Mem) : Rho := evK call n b9_11 [(0, y0), (2, y1), (10, y2)] m (k9_11 call n m0) (x9_11 call n m0)
theorem l9_11 {call : CL} {n : Nat} {m0 : Mem} : d9_11 call n m0 = S9_11 call n m0 := by
  funext y0 y1 y2 m
  have h : d9_11 call n m0 y0 y1 y2 m = G9_11 call n m0 (d9_9 call n) (d9_10 call n m0) y0 y1 y2 m := Eq.mp (by kernel_rfl) (g9_11 call n m0 b9_9 b9_10 y0 y1 y2 m)
  rw [l9_9, l9_10] at h; exact h
def G9_0 (call : CL) (n : Nat) (kn : KN) (kx : KX) (y0 y1 y2 y3 y4 y5 y6 : AV) (m : Mem) : Rho :=
  binK .add y6 (.int .i64 1) fun a0 =>
  kn [(0, y0), (2, y1), (10, y2), (12, y3), (13, y4), (14, y5), (15, a0)] m
theorem g9_0 (call : CL) (n : Nat) (kn : KN) (kx : KX) (y0 y1 y2 y3 y4 y5 y6 : AV) (m : Mem) : evK call n b9_0 [(0, y0), (2, y1), (10, y2), (12, y3), (13, y4), (14, y5), (15, y6)] m kn kx = G9_0 call n kn kx y0 y1 y2 y3 y4 y5 y6 m := by kernel_rfl
def k9_0 (call : CL) (n : Nat) (kn : KN) (kx : KX) : KN := kn
def x9_0 (call : CL) (n : Nat) (kn : KN) (kx : KX) : KX := kx
def S9_0 (call : CL) (n : Nat) (kn : KN) (kx : KX) (y0 y1 y2 y3 y4 y5 y6 : AV) (m : Mem) : Rho := G9_0 call n kn kx y0 y1 y2 y3 y4 y5 y6 m
def d9_0 (call : CL) (n : Nat) (kn : KN) (kx : KX) (y0 y1 y2 y3 y4 y5 y6 : AV) (m : Mem) : Rho := evK call n b9_0 [(0, y0), (2, y1), (10, y2), (12, y3), (13, y4), (14, y5), (15, y6)] m (k9_0 call n kn kx) (x9_0 call n kn kx)
theorem l9_0 {call : CL} {n : Nat} {kn : KN} {kx : KX} : d9_0 call n kn kx = S9_0 call n kn kx := by
  funext y0 y1 y2 y3 y4 y5 y6 m
  have h : d9_0 call n kn kx y0 y1 y2 y3 y4 y5 y6 m = G9_0 call n kn kx y0 y1 y2 y3 y4 y5 y6 m := Eq.mp (by kernel_rfl) (g9_0 call n kn kx y0 y1 y2 y3 y4 y5 y6 m)
  exact h
def G9_1 (call : CL) (n : Nat) (kn : KN) (kx : KX) (Q9_0 : Y7) (y0 y1 y2 y3 y4 y5 y6 : AV) (m : Mem) : Rho :=
  vK (aIndexAddr m 1 y3 y6) m fun a0 m1 =>
  loadK none a0 m1 fun a2 m3 =>
  callK call (.func 40 [] []) false [y4, a2] m3 fun a4 m5 =>
  unK .not a4 fun a6 =>
  gK a6 false (fun k => k y5 m5) m5 fun a7 m8 =>
  gK a6 false (fun k => k y3 m8) m8 fun a9 m10 =>
  gK a6 false (fun k => k y6 m10) m10 fun a11 m12 =>
  gK a6 false (fun k => vK (aIndexAddr m12 1 a9 a11) m12 fun a13 m14 =>
  k a13 m14) m12 fun a15 m16 =>
  gK a6 false (fun k => loadK none a15 m16 fun a17 m18 =>
  k a17 m18) m16 fun a19 m20 =>
  gK a6 false (fun k => callK call (.func 40 [] []) false [a7, a19] m20 fun a21 m22 =>
  k a21 m22) m20 fun a23 m24 =>
  gK a6 false (fun k => unK .not a23 fun a25 =>
  k a25 m24) m24 fun a26 m27 =>
  pickK a6 (some (.bool true)) (some a26) fun a28 =>
  condK a28
  (kx .ret [(8, (.bool false))] m27)
  (Q9_0 y0 y1 y2 y3 y4 y5 y6 m27)
theorem g9_1 (call : CL) (n : Nat) (kn : KN) (kx : KX) (b9_0 : C) (y0 y1 y2 y3 y4 y5 y6 : AV) (m : Mem) : evK call n (c9_1 b9_0) [(0, y0), (2, y1), (10, y2), (12, y3), (13, y4), (14, y5), (15, y6)] m kn kx = G9_1 call n kn kx (fun x0 x1 x2 x3 x4 x5 x6 m => evK call n b9_0 [(0, x0), (2, x1), (10, x2), (12, x3), (13, x4), (14, x5), (15, x6)] m kn kx) y0 y1 y2 y3 y4 y5 y6 m := by kernel_rfl
def k9_1 (call : CL) (n : Nat) (kn : KN) (kx : KX) : KN := kn
def x9_1 (call : CL) (n : Nat) (kn : KN) (kx : KX) : KX := kx
def S9_1 (call : CL) (n : Nat) (kn : KN) (kx : KX) (y0 y1 y2 y3 y4 y5 y6 : AV) (m : Mem) : Rho := G9_1 call n kn kx (S9_0 call n kn kx) y0 y1 y2 y3 y4 y5 y6 m
def d9_1 (call : CL) (n : Nat) (kn : KN) (kx : KX) (y0 y1 y2 y3 y4 y5 y6 : AV) (m : Mem) : Rho := evK call n b9_1 [(0, y0), (2, y1), (10, y2), (12, y3), (13, y4), (14, y5), (15, y6)] m (k9_1 call n kn kx) (x9_1 call n kn kx)
theorem l9_1 {call : CL} {n : Nat} {kn : KN} {kx : KX} : d9_1 call n kn kx = S9_1 call n kn kx := by
  funext y0 y1 y2 y3 y4 y5 y6 m
  have h : d9_1 call n kn kx y0 y1 y2 y3 y4 y5 y6 m = G9_1 call n kn kx (d9_0 call n kn kx) y0 y1 y2 y3 y4 y5 y6 m := Eq.mp (by kernel_rfl) (g9_1 call n kn kx b9_0 y0 y1 y2 y3 y4 y5 y6 m)
  rw [l9_0] at h; exact h
def G9_2 (call : CL) (n : Nat) (kn : KN) (kx : KX) (Q9_1 : Y7) (y0 y1 y2 y3 y4 y5 y6 : AV) (m : Mem) : Rho :=
  vK (aLen m 1 y3) m fun a0 m1 =>
  binK .lss y6 a0 fun a2 =>
  condK a2
  (Q9_1 y0 y1 y2 y3 y4 y5 y6 m1)
  (kx (.ext 0) [(0, y0), (2, y1), (10, y2), (12, y3), (13, y4), (14, y5), (15, y6), (92, a2)] m1)
theorem g9_2 (call : CL) (n : Nat) (kn : KN) (kx : KX) (b9_1 : C) (y0 y1 y2 y3 y4 y5 y6 : AV) (m : Mem) : evK call n (c9_2 b9_1) [(0, y0), (2, y1), (10, y2), (12, y3), (13, y4), (14, y5), (15, y6)] m kn kx = G9_2 call n kn kx (fun x0 x1 x2 x3 x4 x5 x6 m => evK call n b9_1 [(0, x0), (2, x1), (10, x2), (12, x3), (13, x4), (14, x5), (15, x6)] m kn kx) y0 y1 y2 y3 y4 y5 y6 m := by kernel_rfl
def S9_2 (call : CL) (n : Nat) (kn : KN) (kx : KX) (y0 y1 y2 y3 y4 y5 y6 : AV) (m : Mem) : Rho := G9_2 call n kn kx (S9_1 call n kn kx) y0 y1 y2 y3 y4 y5 y6 m
def d9_2 (call : CL) (n : Nat) (kn : KN) (kx : KX) (y0 y1 y2 y3 y4 y5 y6 : AV) (m : Mem) : Rho := evK call n b9_2 [(0, y0), (2, y1), (10, y2), (12, y3), (13, y4), (14, y5), (15, y6)] m kn kx
theorem l9_2 {call : CL} {n : Nat} : d9_2 call n = S9_2 call n := by
  funext kn kx y0 y1 y2 y3 y4 y5 y6 m
  have h : d9_2 call n kn kx y0 y1 y2 y3 y4 y5 y6 m = G9_2 call n kn kx (d9_1 call n kn kx) y0 y1 y2 y3 y4 y5 y6 m := Eq.mp (by kernel_rfl) (g9_2 call n kn kx b9_1 y0 y1 y2 y3 y4 y5 y6 m)
  rw [l9_1] at h; exact h
def G9_12 (call : CL) (n : Nat) (m0 : Mem) (B9_2 : KN → KX → Y7) (Q9_11 : Y3) (y0 y1 y2 y3 y4 y5 : AV) (m : Mem) : Rho :=
  loopV [0, 2, 10, 12, 13, 14, 15] none (fun vs m kn kx => unc vs fun x0 vs => unc vs fun x1 vs => unc vs fun x2 vs => unc vs fun x3 vs => unc vs fun x4 vs => unc vs fun x5 vs => unc vs fun x6 vs => unz vs (B9_2 kn kx x0 x1 x2 x3 x4 x5 x6 m)) (blkK 0 (fun e m => keepK e [0, 2, 10] fun vs => unc vs fun x0 vs => unc vs fun x1 vs => unc vs fun x2 vs => unz vs (Q9_11 x0 x1 x2 m)) (endK f9 m0)) n [y0, y1, y2, y3, y4, y5, (.int .i64 0)] m
theorem g9_12 (call : CL) (n : Nat) (m0 : Mem) (b9_2 : C) (b9_11 : C) (y0 y1 y2 y3 y4 y5 : AV) (m : Mem) : evK call n (c9_12 b9_2 b9_11) [(0, y0), (2, y1), (10, y2), (12, y3), (13, y4), (14, y5)] m (fun e m => endK f9 m0 .nrm e m) (endK f9 m0) = G9_12 call n m0 (fun kn kx x0 x1 x2 x3 x4 x5 x6 m => evK call n b9_2 [(0, x0), (2, x1), (10, x2), (12, x3), (13, x4), (14, x5), (15, x6)] m kn kx) (fun x0 x1 x2 m => evK call n b9_11 [(0, x0), (2, x1), (10, x2)] m (fun e m => endK f9 m0 .nrm e m) (endK f9 m0)) y0 y1 y2 y3 y4 y5 m := by kernel_rfl
def k9_12 (call : CL) (n : Nat) (m0 : Mem) : KN := (fun e m => endK f9 m0 .nrm e m)
def x9_12 (call : CL) (n : Nat) (m0 : Mem) : KX := (endK f9 m0)
def S9_12 (call : CL) (n : Nat) (m0 : Mem) (y0 y1 y2 y3 y4 y5 : AV) (m : Mem) : Rho := G9_12 call n m0 (S9_2 call n) (S9_11 call n m0) y0 y1 y2 y3 y4 y5 m
def d9_12 (call : CL) (n : Nat) (m0 : Mem) (y0 y1 y2 y3 y4 y5 : AV) (m : Mem) : Rho := evK call n b9_12 [(0, y0), (2, y1), (10, y2), (12, y3), (13, y4), (14, y5)] m (k9_12 call n m0) (x9_12 call n m0)
theorem l9_12 {call : CL} {n : Nat} {m0 : Mem} : d9_12 call n m0 = S9_12 call n m0 := by
  funext y0 y1 y2 y3 y4 y5 m
  have h : d9_12 call n m0 y0 y1 y2 y3 y4 y5 m = G9_12 call n m0 (d9_2 call n) (d9_11 call n m0) y0 y1 y2 y3 y4 y5 m := Eq.mp (by kernel_rfl) (g9_12 call n m0 b9_2 b9_11 y0 y1 y2 y3 y4 y5 m)
  rw [l9_2, l9_11] at h; exact h
def G9_13 (call : CL) (n : Nat) (m0 : Mem) (Q9_12 : Y6) (y0 y1 y2 y3 : AV) (m : Mem) : Rho :=
  callK call (.func 33 [] []) false [y0, y1] m fun a0 m1 =>
  callK call (.func 34 [] []) false [y0, y2] m1 fun a2 m3 =>
  appendK 1 8 0 (.list .full 0 []) y2 m3 fun a4 m5 =>
  appendK 1 8 0 a4 y3 m5 fun a6 m7 =>
  callK call (.func 36 [] []) false [y0, y2] m7 fun a8 m9 =>
  callK call (.func 36 [] []) false [a0, y2] m9 fun a10 m11 =>
  callK call (.func 36 [] []) false [y0, a6] m11 fun a12 m13 =>
  callK call (.func 33 [] []) false [y1, y0] m13 fun a14 m15 =>
  callK call (.func 43 [] []) false [a0, a14] m15 fun a16 m17 =>
  unK .not a16 fun a18 =>
  gK a18 false (fun k => k a0 m17) m17 fun a19 m20 =>
  gK a18 false (fun k => k y0 m20) m20 fun a21 m22 =>
  gK a18 false (fun k => callK call (.func 33 [] []) false [a19, a21] m22 fun a23 m24 =>
  k a23 m24) m22 fun a25 m26 =>
  gK a18 false (fun k => k a0 m26) m26 fun a27 m28 =>
  gK a18 false (fun k => callK call (.func 43 [] []) false [a25, a27] m28 fun a29 m30 =>
  k a29 m30) m28 fun a31 m32 =>
  gK a18 false (fun k => unK .not a31 fun a33 =>
  k a33 m32) m32 fun a34 m35 =>
  pickK a18 (some (.bool true)) (some a34) fun a36 =>
  gK a36 false (fun k => k a2 m35) m35 fun a37 m38 =>
  gK a36 false (fun k => k y2 m38) m38 fun a39 m40 =>
  gK a36 false (fun k => callK call (.func 34 [] []) false [a37, a39] m40 fun a41 m42 =>
  k a41 m42) m40 fun a43 m44 =>
  gK a36 false (fun k => k a2 m44) m44 fun a45 m46 =>
  gK a36 false (fun k => callK call (.func 43 [] []) false [a43, a45] m46 fun a47 m48 =>
  k a47 m48) m46 fun a49 m50 =>
  gK a36 false (fun k => unK .not a49 fun a51 =>
  k a51 m50) m50 fun a52 m53 =>
  pickK a36 (some (.bool true)) (some a52) fun a54 =>
  gK a54 false (fun k => k a0 m53) m53 fun a55 m56 =>
  gK a54 false (fun k => callK call (.func 32 [] []) false [a55] m56 fun a57 m58 =>
  k a57 m58) m56 fun a59 m60 =>
  gK a54 false (fun k => k a0 m60) m60 fun a61 m62 =>
  gK a54 false (fun k => callK call (.func 43 [] []) false [a59, a61] m62 fun a63 m64 =>
  k a63 m64) m62 fun a65 m66 =>
  gK a54 false (fun k => unK .not a65 fun a67 =>
  k a67 m66) m66 fun a68 m69 =>
  pickK a54 (some (.bool true)) (some a68) fun a70 =>
  gK a70 false (fun k => k y0 m69) m69 fun a71 m72 =>
  gK a70 false (fun k => callK call (.func 32 [] []) false [a71] m72 fun a73 m74 =>
  k a73 m74) m72 fun a75 m76 =>
  gK a70 false (fun k => callK call (.func 33 [] []) false [a75, (.list .full 0 [])] m76 fun a77 m78 =>
  k a77 m78) m76 fun a79 m80 =>
  gK a70 false (fun k => k y0 m80) m80 fun a81 m82 =>
  gK a70 false (fun k => callK call (.func 32 [] []) false [a81] m82 fun a83 m84 =>
  k a83 m84) m82 fun a85 m86 =>
  gK a70 false (fun k => callK call (.func 43 [] []) false [a79, a85] m86 fun a87 m88 =>
  k a87 m88) m86 fun a89 m90 =>
  gK a70 false (fun k => unK .not a89 fun a91 =>
  k a91 m90) m90 fun a92 m93 =>
  pickK a70 (some (.bool true)) (some a92) fun a94 =>
  condK a94
  (retK false false m0 [(.bool false)] m93)
  (Q9_12 y0 y2 a2 a8 a10 a12 m93)
theorem g9_13 (call : CL) (n : Nat) (m0 : Mem) (b9_12 : C) (y0 y1 y2 y3 : AV) (m : Mem) : evK call n (c9_13 b9_12) [(0, y0), (1, y1), (2, y2), (3, y3)] m (fun e m => endK f9 m0 .nrm e m) (endK f9 m0) = G9_13 call n m0 (fun x0 x1 x2 x3 x4 x5 m => evK call n b9_12 [(0, x0), (2, x1), (10, x2), (12, x3), (13, x4), (14, x5)] m (fun e m => endK f9 m0 .nrm e m) (endK f9 m0)) y0 y1 y2 y3 m := by kernel_rfl
def k9_13 (call : CL) (n : Nat) (m0 : Mem) : KN := (fun e m => endK f9 m0 .nrm e m)
def x9_13 (call : CL) (n : Nat) (m0 : Mem) : KX := (endK f9 m0)
def S9_13 (call : CL) (n : Nat) (m0 : Mem) (y0 y1 y2 y3 : AV) (m : Mem) : Rho := G9_13 call n m0 (S9_12 call n m0) y0 y1 y2 y3 m
def d9_13 (call : CL) (n : Nat) (m0 : Mem) (y0 y1 y2 y3 : AV) (m : Mem) : Rho := evK call n b9_13 [(0, y0), (1, y1), (2, y2), (3, y3)] m (k9_13 call n m0) (x9_13 call n m0)
theorem l9_13 {call : CL} {n : Nat} {m0 : Mem} : d9_13 call n m0 = S9_13 call n m0 := by
  funext y0 y1 y2 y3 m
  have h : d9_13 call n m0 y0 y1 y2 y3 m = G9_13 call n m0 (d9_12 call n m0) y0 y1 y2 y3 m := Eq.mp (by kernel_rfl) (g9_13 call n m0 b9_12 y0 y1 y2 y3 m)
  rw [l9_12] at h; exact h
def G9 (call : CL) (n : Nat) (m0 : Mem) (Q9_13 : Y4) (y0 y1 y2 y3 : AV) (m : Mem) : Rho :=
  vK (aLen m 1 y0) m fun a0 m1 =>
  vK (aLen m1 1 y1) m1 fun a2 m3 =>
  vK (aLen m3 1 y2) m3 fun a4 m5 =>
  vK (aLen m5 1 y3) m5 fun a6 m7 =>
  buildSliceK 1 [(.int .i64 0)] 4 false [(0 * 1, 1, AV.untag a0), (1 * 1, 1, AV.untag a2), (2 * 1, 1, AV.untag a4), (3 * 1, 1, AV.untag a6)] m7 fun a8 m9 =>
  callK call (.func 27 [] []) false [a8] m9 fun a10 m11 =>
  condK a10
  (callK call (.func 28 [] []) false [] m11 fun a12 m13 =>
  retK false false m0 [a12] m13)
  (Q9_13 y0 y1 y2 y3 m11)
theorem g9 (call : CL) (n : Nat) (m0 : Mem) (b9_13 : C) (y0 y1 y2 y3 : AV) (m : Mem) : evK call n (c9 b9_13) [(0, y0), (1, y1), (2, y2), (3, y3)] m (fun e m => endK f9 m0 .nrm e m) (endK f9 m0) = G9 call n m0 (fun x0 x1 x2 x3 m => evK call n b9_13 [(0, x0), (1, x1), (2, x2), (3, x3)] m (fun e m => endK f9 m0 .nrm e m) (endK f9 m0)) y0 y1 y2 y3 m := by kernel_rfl
def S9 (call : CL) (n : Nat) (m0 : Mem) (y0 y1 y2 y3 : AV) : Rho := G9 call n m0 (S9_13 call n m0) y0 y1 y2 y3 { m0 with bad := none }
theorem s9 (call : CL) (n : Nat) (m0 : Mem) (y0 y1 y2 y3 : AV) : bodyK call n f9 [y0, y1, y2, y3] m0 = S9 call n m0 y0 y1 y2 y3 :=
  have h : bodyK call n f9 [y0, y1, y2, y3] m0 = G9 call n m0 (d9_13 call n m0) y0 y1 y2 y3 { m0 with bad := none } := Eq.mp (by kernel_rfl) (g9 call n m0 b9_13 y0 y1 y2 y3 { m0 with bad := none })
  by rw [l9_13] at h; exact h
def F9 : SF := fun call n vs m0 => unc vs fun x0 vs => unc vs fun x1 vs => unc vs fun x2 vs => unc vs fun x3 vs => unz vs (S9 call n m0 x0 x1 x2 x3)
theorem F9_ok {orc : List AV → Mem → Option (AV × Mem)} : SOk 9 { f9 with orc := orc } F9 := by
  intro call n vs m0 ho r h0
  simp only [F9] at h0
  obtain ⟨y0, v0, rfl, h1⟩ := unc_some h0
  obtain ⟨y1, v1, rfl, h2⟩ := unc_some h1
  obtain ⟨y2, v2, rfl, h3⟩ := unc_some h2
  obtain ⟨y3, v3, rfl, h4⟩ := unc_some h3
  obtain ⟨rfl, hz⟩ := unz_some h4
  exact bodyK_le ho rfl r (Eq.mp (by kernel_rfl) ((s9 call n m0 y0 y1 y2 y3).trans hz))

-- resolvent/resolventlaw17.great
def G27_3 (call : CL) (n : Nat) (m0 : Mem) (m : Mem) : Rho :=
  retK false false m0 [(.bool false)] m
theorem g27_3 (call : CL) (n : Nat) (m0 : Mem) (m : Mem) : evK call n b27_3 [] m (fun e m => endK f27 m0 .nrm e m) (endK f27 m0) = G27_3 call n m0 m := by kernel_rfl
def k27_3 (call : CL) (n : Nat) (m0 : Mem) : KN := (fun e m => endK f27 m0 .nrm e m)
def x27_3 (call : CL) (n : Nat) (m0 : Mem) : KX := (endK f27 m0)
def S27_3 (call : CL) (n : Nat) (m0 : Mem) (m : Mem) : Rho := G27_3 call n m0 m
def d27_3 (call : CL) (n : Nat) (m0 : Mem) (m : Mem) : Rho := evK call n b27_3 [] m (k27_3 call n m0) (x27_3 call n m0)
theorem l27_3 {call : CL} {n : Nat} {m0 : Mem} : d27_3 call n m0 = S27_3 call n m0 := by
  funext m
  have h : d27_3 call n m0 m = G27_3 call n m0 m := Eq.mp (by kernel_rfl) (g27_3 call n m0 m)
  exact h
def G27_0 (call : CL) (n : Nat) (kn : KN) (kx : KX) (y0 y1 : AV) (m : Mem) : Rho :=
  binK .add y1 (.int .i64 1) fun a0 =>
  kn [(0, y0), (3, a0)] m
theorem g27_0 (call : CL) (n : Nat) (kn : KN) (kx : KX) (y0 y1 : AV) (m : Mem) : evK call n b27_0 [(0, y0), (3, y1)] m kn kx = G27_0 call n kn kx y0 y1 m := by kernel_rfl
def k27_0 (call : CL) (n : Nat) (kn : KN) (kx : KX) : KN := kn
def x27_0 (call : CL) (n : Nat) (kn : KN) (kx : KX) : KX := kx
def S27_0 (call : CL) (n : Nat) (kn : KN) (kx : KX) (y0 y1 : AV) (m : Mem) : Rho := G27_0 call n kn kx y0 y1 m
def d27_0 (call : CL) (n : Nat) (kn : KN) (kx : KX) (y0 y1 : AV) (m : Mem) : Rho := evK call n b27_0 [(0, y0), (3, y1)] m (k27_0 call n kn kx) (x27_0 call n kn kx)
theorem l27_0 {call : CL} {n : Nat} {kn : KN} {kx : KX} : d27_0 call n kn kx = S27_0 call n kn kx := by
  funext y0 y1 m
  have h : d27_0 call n kn kx y0 y1 m = G27_0 call n kn kx y0 y1 m := Eq.mp (by kernel_rfl) (g27_0 call n kn kx y0 y1 m)
  exact h
def G27_1 (call : CL) (n : Nat) (kn : KN) (kx : KX) (Q27_0 : Y2) (y0 y1 : AV) (m : Mem) : Rho :=
  vK (aIndexAddr m 1 y0 y1) m fun a0 m1 =>
  loadK none a0 m1 fun a2 m3 =>
  binK .gtr a2 (.int .i64 40) fun a4 =>
  condK a4
  (kx .ret [(2, (.bool true))] m3)
  (Q27_0 y0 y1 m3)
theorem g27_1 (call : CL) (n : Nat) (kn : KN) (kx : KX) (b27_0 : C) (y0 y1 : AV) (m : Mem) : evK call n (c27_1 b27_0) [(0, y0), (3, y1)] m kn kx = G27_1 call n kn kx (fun x0 x1 m => evK call n b27_0 [(0, x0), (3, x1)] m kn kx) y0 y1 m := by kernel_rfl
def k27_1 (call : CL) (n : Nat) (kn : KN) (kx : KX) : KN := kn
def x27_1 (call : CL) (n : Nat) (kn : KN) (kx : KX) : KX := kx
def S27_1 (call : CL) (n : Nat) (kn : KN) (kx : KX) (y0 y1 : AV) (m : Mem) : Rho := G27_1 call n kn kx (S27_0 call n kn kx) y0 y1 m
def d27_1 (call : CL) (n : Nat) (kn : KN) (kx : KX) (y0 y1 : AV) (m : Mem) : Rho := evK call n b27_1 [(0, y0), (3, y1)] m (k27_1 call n kn kx) (x27_1 call n kn kx)
theorem l27_1 {call : CL} {n : Nat} {kn : KN} {kx : KX} : d27_1 call n kn kx = S27_1 call n kn kx := by
  funext y0 y1 m
  have h : d27_1 call n kn kx y0 y1 m = G27_1 call n kn kx (d27_0 call n kn kx) y0 y1 m := Eq.mp (by kernel_rfl) (g27_1 call n kn kx b27_0 y0 y1 m)
  rw [l27_0] at h; exact h
def G27_2 (call : CL) (n : Nat) (kn : KN) (kx : KX) (Q27_1 : Y2) (y0 y1 : AV) (m : Mem) : Rho :=
  vK (aLen m 1 y0) m fun a0 m1 =>
  binK .lss y1 a0 fun a2 =>
  condK a2
  (Q27_1 y0 y1 m1)
  (kx (.ext 0) [(0, y0), (3, y1), (7, a2)] m1)
theorem g27_2 (call : CL) (n : Nat) (kn : KN) (kx : KX) (b27_1 : C) (y0 y1 : AV) (m : Mem) : evK call n (c27_2 b27_1) [(0, y0), (3, y1)] m kn kx = G27_2 call n kn kx (fun x0 x1 m => evK call n b27_1 [(0, x0), (3, x1)] m kn kx) y0 y1 m := by kernel_rfl
def S27_2 (call : CL) (n : Nat) (kn : KN) (kx : KX) (y0 y1 : AV) (m : Mem) : Rho := G27_2 call n kn kx (S27_1 call n kn kx) y0 y1 m
def d27_2 (call : CL) (n : Nat) (kn : KN) (kx : KX) (y0 y1 : AV) (m : Mem) : Rho := evK call n b27_2 [(0, y0), (3, y1)] m kn kx
theorem l27_2 {call : CL} {n : Nat} : d27_2 call n = S27_2 call n := by
  funext kn kx y0 y1 m
  have h : d27_2 call n kn kx y0 y1 m = G27_2 call n kn kx (d27_1 call n kn kx) y0 y1 m := Eq.mp (by kernel_rfl) (g27_2 call n kn kx b27_1 y0 y1 m)
  rw [l27_1] at h; exact h
def G27 (call : CL) (n : Nat) (m0 : Mem) (B27_2 : KN → KX → Y2) (Q27_3 : Y0) (y0 : AV) (m : Mem) : Rho :=
  loopV [0, 3] none (fun vs m kn kx => unc vs fun x0 vs => unc vs fun x1 vs => unz vs (B27_2 kn kx x0 x1 m)) (blkK 0 (fun e m => keepK e [] fun vs => unz vs (Q27_3 m)) (endK f27 m0)) n [y0, (.int .i64 0)] m
theorem g27 (call : CL) (n : Nat) (m0 : Mem) (b27_2 : C) (b27_3 : C) (y0 : AV) (m : Mem) : evK call n (c27 b27_2 b27_3) [(0, y0)] m (fun e m => endK f27 m0 .nrm e m) (endK f27 m0) = G27 call n m0 (fun kn kx x0 x1 m => evK call n b27_2 [(0, x0), (3, x1)] m kn kx) (fun m => evK call n b27_3 [] m (fun e m => endK f27 m0 .nrm e m) (endK f27 m0)) y0 m := by kernel_rfl
def S27 (call : CL) (n : Nat) (m0 : Mem) (y0 : AV) : Rho := G27 call n m0 (S27_2 call n) (S27_3 call n m0) y0 { m0 with bad := none }
theorem s27 (call : CL) (n : Nat) (m0 : Mem) (y0 : AV) : bodyK call n f27 [y0] m0 = S27 call n m0 y0 :=
  have h : bodyK call n f27 [y0] m0 = G27 call n m0 (d27_2 call n) (d27_3 call n m0) y0 { m0 with bad := none } := Eq.mp (by kernel_rfl) (g27 call n m0 b27_2 b27_3 y0 { m0 with bad := none })
  by rw [l27_2, l27_3] at h; exact h
def F27 : SF := fun call n vs m0 => unc vs fun x0 vs => unz vs (S27 call n m0 x0)
theorem F27_ok {orc : List AV → Mem → Option (AV × Mem)} : SOk 27 { f27 with orc := orc } F27 := by
  intro call n vs m0 ho r h0
  simp only [F27] at h0
  obtain ⟨y0, v0, rfl, h1⟩ := unc_some h0
  obtain ⟨rfl, hz⟩ := unz_some h1
  exact bodyK_le ho rfl r (Eq.mp (by kernel_rfl) ((s27 call n m0 y0).trans hz))

-- resolvent/resolventlaw17.wakes
def G28 (call : CL) (n : Nat) (m0 : Mem) (m : Mem) : Rho :=
  buildK [(.int .i64 0), (.int .i64 0)] [(0, 1, AV.untag1 (.int .i64 3)), (1, 1, AV.untag1 (.int .i64 1))] fun a0 =>
  buildK [(.int .i64 0), (.int .i64 0)] [(0, 1, AV.untag1 (.int .i64 1)), (1, 1, AV.untag1 (.int .i64 3))] fun a1 =>
  buildK [(.int .i64 0), (.int .i64 0)] [(0, 1, AV.untag1 (.int .i64 2)), (1, 1, AV.untag1 (.int .i64 2))] fun a2 =>
  buildSliceK 2 [(.int .i64 0), (.int .i64 0)] 3 false [(0 * 2, 2, AV.untag a0), (1 * 2, 2, AV.untag a1), (2 * 2, 2, AV.untag a2)] m fun a3 m4 =>
  callK call (.func 32 [] []) false [a3] m4 fun a5 m6 =>
  buildK [(.int .i64 0), (.int .i64 0)] [(0, 1, AV.untag1 (.int .i64 1)), (1, 1, AV.untag1 (.int .i64 3))] fun a7 =>
  buildK [(.int .i64 0), (.int .i64 0)] [(0, 1, AV.untag1 (.int .i64 3)), (1, 1, AV.untag1 (.int .i64 5))] fun a8 =>
  buildSliceK 2 [(.int .i64 0), (.int .i64 0)] 2 false [(0 * 2, 2, AV.untag a7), (1 * 2, 2, AV.untag a8)] m6 fun a9 m10 =>
  buildSliceK 1 [(.int .i64 0)] 1 false [(0 * 1, 1, AV.untag (.int .i64 3))] m10 fun a11 m12 =>
  callK call (.func 36 [] []) false [a9, a11] m12 fun a13 m14 =>
  buildK [(.int .i64 0), (.int .i64 0)] [(0, 1, AV.untag1 (.int .i64 1)), (1, 1, AV.untag1 (.int .i64 3))] fun a15 =>
  buildK [(.int .i64 0), (.int .i64 0)] [(0, 1, AV.untag1 (.int .i64 2)), (1, 1, AV.untag1 (.int .i64 4))] fun a16 =>
  buildSliceK 2 [(.int .i64 0), (.int .i64 0)] 2 false [(0 * 2, 2, AV.untag a15), (1 * 2, 2, AV.untag a16)] m14 fun a17 m18 =>
  buildSliceK 1 [(.int .i64 0)] 1 false [(0 * 1, 1, AV.untag (.int .i64 3))] m18 fun a19 m20 =>
  callK call (.func 35 [] []) false [a17, a19] m20 fun a21 m22 =>
  vK (aLen m22 1 a5) m22 fun a23 m24 =>
  binK .eql a23 (.int .i64 1) fun a25 =>
  gK a25 true (fun k => k a5 m24) m24 fun a26 m27 =>
  gK a25 true (fun k => vK (aIndexAddr m27 2 a26 (.int .i64 0)) m27 fun a28 m29 =>
  k a28 m29) m27 fun a30 m31 =>
  gK a25 true (fun k => loadK (some 2) a30 m31 fun a32 m33 =>
  k a32 m33) m31 fun a34 m35 =>
  gK a25 true (fun k => buildK [(.int .i64 0), (.int .i64 0)] [(0, 1, AV.untag1 (.int .i64 1)), (1, 1, AV.untag1 (.int .i64 3))] fun a36 =>
  k a36 m35) m35 fun a37 m38 =>
  gK a25 true (fun k => eqvK ⟨[.i, .i], true⟩ false a34 a37 fun a39 =>
  k a39 m38) m38 fun a40 m41 =>
  pickK a25 (some a40) (some (.bool false)) fun a42 =>
  gK a42 true (fun k => k a13 m41) m41 fun a43 m44 =>
  gK a42 true (fun k => vK (aLen m44 1 a43) m44 fun a45 m46 =>
  k a45 m46) m44 fun a47 m48 =>
  gK a42 true (fun k => binK .eql a47 (.int .i64 3) fun a49 =>
  k a49 m48) m48 fun a50 m51 =>
  pickK a42 (some a50) (some (.bool false)) fun a52 =>
  gK a52 true (fun k => k a13 m51) m51 fun a53 m54 =>
  gK a52 true (fun k => vK (aIndexAddr m54 1 a53 (.int .i64 2)) m54 fun a55 m56 =>
  k a55 m56) m54 fun a57 m58 =>
  gK a52 true (fun k => loadK none a57 m58 fun a59 m60 =>
  k a59 m60) m58 fun a61 m62 =>
  gK a52 true (fun k => binK .eql a61 (.int .i64 5) fun a63 =>
  k a63 m62) m62 fun a64 m65 =>
  pickK a52 (some a64) (some (.bool false)) fun a66 =>
  gK a66 true (fun k => k a21 m65) m65 fun a67 m68 =>
  gK a66 true (fun k => vK (aLen m68 1 a67) m68 fun a69 m70 =>
  k a69 m70) m68 fun a71 m72 =>
  gK a66 true (fun k => binK .eql a71 (.int .i64 1) fun a73 =>
  k a73 m72) m72 fun a74 m75 =>
  pickK a66 (some a74) (some (.bool false)) fun a76 =>
  gK a76 true (fun k => k a21 m75) m75 fun a77 m78 =>
  gK a76 true (fun k => vK (aIndexAddr m78 2 a77 (.int .i64 0)) m78 fun a79 m80 =>
  k a79 m80) m78 fun a81 m82 =>
  gK a76 true (fun k => loadK (some 2) a81 m82 fun a83 m84 =>
  k a83 m84) m82 fun a85 m86 =>
  gK a76 true (fun k => buildK [(.int .i64 0), (.int .i64 0)] [(0, 1, AV.untag1 (.int .i64 2)), (1, 1, AV.untag1 (.int .i64 4))] fun a87 =>
  k a87 m86) m86 fun a88 m89 =>
  gK a76 true (fun k => eqvK ⟨[.i, .i], true⟩ false a85 a88 fun a90 =>
  k a90 m89) m89 fun a91 m92 =>
  pickK a76 (some a91) (some (.bool false)) fun a93 =>
  gK a93 true (fun k => buildK [(.int .i64 0), (.int .i64 0)] [(0, 1, AV.untag1 (.int .i64 1)), (1, 1, AV.untag1 (.int .i64 3))] fun a94 =>
  k a94 m92) m92 fun a95 m96 =>
  gK a93 true (fun k => buildSliceK 2 [(.int .i64 0), (.int .i64 0)] 1 false [(0 * 2, 2, AV.untag a95)] m96 fun a97 m98 =>
  k a97 m98) m96 fun a99 m100 =>
  gK a93 true (fun k => callK call (.func 42 [] []) false [a99, (.int .i64 3), (.int .i64 1)] m100 fun a101 m102 =>
  k a101 m102) m100 fun a103 m104 =>
  pickK a93 (some a103) (some (.bool false)) fun a105 =>
  retK true false m0 [a105] m104
theorem g28 (call : CL) (n : Nat) (m0 : Mem) (m : Mem) : evK call n b28 [] m (fun e m => endK f28 m0 .nrm e m) (endK f28 m0) = G28 call n m0 m := by kernel_rfl
def S28 (call : CL) (n : Nat) (m0 : Mem) : Rho := G28 call n m0 { m0 with bad := none }
theorem s28 (call : CL) (n : Nat) (m0 : Mem) : bodyK call n f28 [] m0 = S28 call n m0 :=
  have h : bodyK call n f28 [] m0 = G28 call n m0 { m0 with bad := none } := Eq.mp (by kernel_rfl) (g28 call n m0 { m0 with bad := none })
  h
def F28 : SF := fun call n vs m0 => unz vs (S28 call n m0)
theorem F28_ok {orc : List AV → Mem → Option (AV × Mem)} : SOk 28 { f28 with orc := orc } F28 := by
  intro call n vs m0 ho r h0
  simp only [F28] at h0
  obtain ⟨rfl, hz⟩ := unz_some h0
  exact bodyK_le ho rfl r (Eq.mp (by kernel_rfl) ((s28 call n m0).trans hz))

-- resolvent/pairs.Rename
def G29_3 (call : CL) (n : Nat) (m0 : Mem) (y0 : AV) (m : Mem) : Rho :=
  loadK none y0 m fun a0 m1 =>
  callK call (.func 32 [] []) false [a0] m1 fun a2 m3 =>
  retK false false m0 [a2] m3
theorem g29_3 (call : CL) (n : Nat) (m0 : Mem) (y0 : AV) (m : Mem) : evK call n b29_3 [(5, y0)] m (fun e m => endK f29 m0 .nrm e m) (endK f29 m0) = G29_3 call n m0 y0 m := by kernel_rfl
def k29_3 (call : CL) (n : Nat) (m0 : Mem) : KN := (fun e m => endK f29 m0 .nrm e m)
def x29_3 (call : CL) (n : Nat) (m0 : Mem) : KX := (endK f29 m0)
def S29_3 (call : CL) (n : Nat) (m0 : Mem) (y0 : AV) (m : Mem) : Rho := G29_3 call n m0 y0 m
def d29_3 (call : CL) (n : Nat) (m0 : Mem) (y0 : AV) (m : Mem) : Rho := evK call n b29_3 [(5, y0)] m (k29_3 call n m0) (x29_3 call n m0)
theorem l29_3 {call : CL} {n : Nat} {m0 : Mem} : d29_3 call n m0 = S29_3 call n m0 := by
  funext y0 m
  have h : d29_3 call n m0 y0 m = G29_3 call n m0 y0 m := Eq.mp (by kernel_rfl) (g29_3 call n m0 y0 m)
  exact h
def G29_0 (call : CL) (n : Nat) (kn : KN) (kx : KX) (y0 y1 y2 y3 : AV) (m : Mem) : Rho :=
  newK [(.int .i64 0), (.int .i64 0)] m fun a0 m1 =>
  storeK 2 a0 y0 m1 fun a2 m3 =>
  kn [(3, y1), (5, y3), (6, a0)] m3
theorem g29_0 (call : CL) (n : Nat) (kn : KN) (kx : KX) (y0 y1 y2 y3 : AV) (m : Mem) : evK call n b29_0 [(9, y0), (3, y1), (4, y2), (5, y3)] m kn kx = G29_0 call n kn kx y0 y1 y2 y3 m := by kernel_rfl
def S29_0 (call : CL) (n : Nat) (kn : KN) (kx : KX) (y0 y1 y2 y3 : AV) (m : Mem) : Rho := G29_0 call n kn kx y0 y1 y2 y3 m
def d29_0 (call : CL) (n : Nat) (kn : KN) (kx : KX) (y0 y1 y2 y3 : AV) (m : Mem) : Rho := evK call n b29_0 [(9, y0), (3, y1), (4, y2), (5, y3)] m kn kx
theorem l29_0 {call : CL} {n : Nat} : d29_0 call n = S29_0 call n := by
  funext kn kx y0 y1 y2 y3 m
  have h : d29_0 call n kn kx y0 y1 y2 y3 m = G29_0 call n kn kx y0 y1 y2 y3 m := Eq.mp (by kernel_rfl) (g29_0 call n kn kx y0 y1 y2 y3 m)
  exact h
def G29_2 (call : CL) (n : Nat) (kn : KN) (kx : KX) (y0 y1 y2 : AV) (m : Mem) : Rho :=
  vK (aIndexAddrA 2 1 y2 (.int .i64 1)) m fun a0 m1 =>
  loadK none a0 m1 fun a2 m3 =>
  loadK none y0 m3 fun a4 m5 =>
  vK (aLen m5 1 a4) m5 fun a6 m7 =>
  binK .lss a2 a6 fun a8 =>
  condK a8
  (loadK none y1 m7 fun a9 m10 =>
  loadK none y0 m10 fun a11 m12 =>
  vK (aIndexAddrA 2 1 y2 (.int .i64 0)) m12 fun a13 m14 =>
  loadK none a13 m14 fun a15 m16 =>
  vK (aIndexAddr m16 1 a11 a15) m16 fun a17 m18 =>
  loadK none a17 m18 fun a19 m20 =>
  loadK none y0 m20 fun a21 m22 =>
  vK (aIndexAddrA 2 1 y2 (.int .i64 1)) m22 fun a23 m24 =>
  loadK none a23 m24 fun a25 m26 =>
  vK (aIndexAddr m26 1 a21 a25) m26 fun a27 m28 =>
  loadK none a27 m28 fun a29 m30 =>
  buildK [(.int .i64 0), (.int .i64 0)] [(0, 1, AV.untag1 a19), (1, 1, AV.untag1 a29)] fun a31 =>
  buildSliceK 2 [(.int .i64 0), (.int .i64 0)] 1 false [(0 * 2, 2, AV.untag a31)] m30 fun a32 m33 =>
  appendK 2 16 0 a9 a32 m33 fun a34 m35 =>
  storeK 1 y1 a34 m35 fun a36 m37 =>
  cond (stayK [m7, m35, m37] []) (kn [] m37) none)
  (kn [(3, y0), (5, y1), (6, y2), (14, a8)] m7)
theorem g29_2 (call : CL) (n : Nat) (kn : KN) (kx : KX) (y0 y1 y2 : AV) (m : Mem) : evK call n b29_2 [(3, y0), (5, y1), (6, y2)] m kn kx = G29_2 call n kn kx y0 y1 y2 m := by kernel_rfl
def S29_2 (call : CL) (n : Nat) (kn : KN) (kx : KX) (y0 y1 y2 : AV) (m : Mem) : Rho := G29_2 call n kn kx y0 y1 y2 m
def d29_2 (call : CL) (n : Nat) (kn : KN) (kx : KX) (y0 y1 y2 : AV) (m : Mem) : Rho := evK call n b29_2 [(3, y0), (5, y1), (6, y2)] m kn kx
theorem l29_2 {call : CL} {n : Nat} : d29_2 call n = S29_2 call n := by
  funext kn kx y0 y1 y2 m
  have h : d29_2 call n kn kx y0 y1 y2 m = G29_2 call n kn kx y0 y1 y2 m := Eq.mp (by kernel_rfl) (g29_2 call n kn kx y0 y1 y2 m)
  exact h
def G29 (call : CL) (n : Nat) (m0 : Mem) (Q29_3 : Y1) (y0 y1 : AV) (m : Mem) : Rho :=
  boxK y1 m fun a0 m1 =>
  newK [(.list .full 0 [])] m1 fun a2 m3 =>
  callK call (.func 61 [] []) false [y0] m3 fun a4 m5 =>
  rangeK call a4 [9] b29_0 b29_2 [(3, a0), (4, (.list .full 2 [])), (5, a2)] m5 (fun e m => keepK e [5] fun vs => unc vs fun x0 vs => unz vs (Q29_3 x0 m)) (blkK 0 (fun e m => keepK e [5] fun vs => unc vs fun x0 vs => unz vs (Q29_3 x0 m)) (endK f29 m0))
theorem g29 (call : CL) (n : Nat) (m0 : Mem) (b29_3 : C) (y0 y1 : AV) (m : Mem) : evK call n (c29 b29_0 b29_2 b29_3) [(0, y0), (1, y1)] m (fun e m => endK f29 m0 .nrm e m) (endK f29 m0) = G29 call n m0 (fun x0 m => evK call n b29_3 [(5, x0)] m (fun e m => endK f29 m0 .nrm e m) (endK f29 m0)) y0 y1 m := by kernel_rfl
def S29 (call : CL) (n : Nat) (m0 : Mem) (y0 y1 : AV) : Rho := G29 call n m0 (S29_3 call n m0) y0 y1 { m0 with bad := none }
theorem s29 (call : CL) (n : Nat) (m0 : Mem) (y0 y1 : AV) : bodyK call n f29 [y0, y1] m0 = S29 call n m0 y0 y1 :=
  have h : bodyK call n f29 [y0, y1] m0 = G29 call n m0 (d29_3 call n m0) y0 y1 { m0 with bad := none } := Eq.mp (by kernel_rfl) (g29 call n m0 b29_3 y0 y1 { m0 with bad := none })
  by rw [l29_3] at h; exact h
def F29 : SF := fun call n vs m0 => unc vs fun x0 vs => unc vs fun x1 vs => unz vs (S29 call n m0 x0 x1)
theorem F29_ok {orc : List AV → Mem → Option (AV × Mem)} : SOk 29 { f29 with orc := orc } F29 := by
  intro call n vs m0 ho r h0
  simp only [F29] at h0
  obtain ⟨y0, v0, rfl, h1⟩ := unc_some h0
  obtain ⟨y1, v1, rfl, h2⟩ := unc_some h1
  obtain ⟨rfl, hz⟩ := unz_some h2
  exact bodyK_le ho rfl r (Eq.mp (by kernel_rfl) ((s29 call n m0 y0 y1).trans hz))

-- resolvent/resolventref17.Form
def G30_6 (call : CL) (n : Nat) (m0 : Mem) (m : Mem) : Rho :=
  retK false false m0 [(.bool true)] m
theorem g30_6 (call : CL) (n : Nat) (m0 : Mem) (m : Mem) : evK call n b30_6 [] m (fun e m => endK f30 m0 .nrm e m) (endK f30 m0) = G30_6 call n m0 m := by kernel_rfl
def k30_6 (call : CL) (n : Nat) (m0 : Mem) : KN := (fun e m => endK f30 m0 .nrm e m)
def x30_6 (call : CL) (n : Nat) (m0 : Mem) : KX := (endK f30 m0)
def S30_6 (call : CL) (n : Nat) (m0 : Mem) (m : Mem) : Rho := G30_6 call n m0 m
def d30_6 (call : CL) (n : Nat) (m0 : Mem) (m : Mem) : Rho := evK call n b30_6 [] m (k30_6 call n m0) (x30_6 call n m0)
theorem l30_6 {call : CL} {n : Nat} {m0 : Mem} : d30_6 call n m0 = S30_6 call n m0 := by
  funext m
  have h : d30_6 call n m0 m = G30_6 call n m0 m := Eq.mp (by kernel_rfl) (g30_6 call n m0 m)
  exact h
def G30_3 (call : CL) (n : Nat) (kn : KN) (kx : KX) (y0 y1 : AV) (m : Mem) : Rho :=
  binK .add y1 (.int .i64 1) fun a0 =>
  kn [(0, y0), (3, a0)] m
theorem g30_3 (call : CL) (n : Nat) (kn : KN) (kx : KX) (y0 y1 : AV) (m : Mem) : evK call n b30_3 [(0, y0), (3, y1)] m kn kx = G30_3 call n kn kx y0 y1 m := by kernel_rfl
def k30_3 (call : CL) (n : Nat) (kn : KN) (kx : KX) : KN := kn
def x30_3 (call : CL) (n : Nat) (kn : KN) (kx : KX) : KX := kx
def S30_3 (call : CL) (n : Nat) (kn : KN) (kx : KX) (y0 y1 : AV) (m : Mem) : Rho := G30_3 call n kn kx y0 y1 m
def d30_3 (call : CL) (n : Nat) (kn : KN) (kx : KX) (y0 y1 : AV) (m : Mem) : Rho := evK call n b30_3 [(0, y0), (3, y1)] m (k30_3 call n kn kx) (x30_3 call n kn kx)
theorem l30_3 {call : CL} {n : Nat} {kn : KN} {kx : KX} : d30_3 call n kn kx = S30_3 call n kn kx := by
  funext y0 y1 m
  have h : d30_3 call n kn kx y0 y1 m = G30_3 call n kn kx y0 y1 m := Eq.mp (by kernel_rfl) (g30_3 call n kn kx y0 y1 m)
  exact h
def G30_2 (call : CL) (n : Nat) (kn : KN) (kx : KX) (Q30_3 : Y2) (y0 y1 : AV) (m : Mem) : Rho :=
  binK .gtr y1 (.int .i64 0) fun a0 =>
  gK a0 true (fun k => k y0 m) m fun a1 m2 =>
  gK a0 true (fun k => k y1 m2) m2 fun a3 m4 =>
  gK a0 true (fun k => binK .sub a3 (.int .i64 1) fun a5 =>
  k a5 m4) m4 fun a6 m7 =>
  gK a0 true (fun k => vK (aIndexAddr m7 2 a1 a6) m7 fun a8 m9 =>
  k a8 m9) m7 fun a10 m11 =>
  gK a0 true (fun k => vK (aIndexAddrA 2 1 a10 (.int .i64 0)) m11 fun a12 m13 =>
  k a12 m13) m11 fun a14 m15 =>
  gK a0 true (fun k => loadK none a14 m15 fun a16 m17 =>
  k a16 m17) m15 fun a18 m19 =>
  gK a0 true (fun k => k y0 m19) m19 fun a20 m21 =>
  gK a0 true (fun k => k y1 m21) m21 fun a22 m23 =>
  gK a0 true (fun k => vK (aIndexAddr m23 2 a20 a22) m23 fun a24 m25 =>
  k a24 m25) m23 fun a26 m27 =>
  gK a0 true (fun k => vK (aIndexAddrA 2 1 a26 (.int .i64 0)) m27 fun a28 m29 =>
  k a28 m29) m27 fun a30 m31 =>
  gK a0 true (fun k => loadK none a30 m31 fun a32 m33 =>
  k a32 m33) m31 fun a34 m35 =>
  gK a0 true (fun k => binK .gtr a18 a34 fun a36 =>
  k a36 m35) m35 fun a37 m38 =>
  gK a0 true (fun k => k a37 m38) m38 fun a39 m40 =>
  gK a39 false (fun k => k y0 m40) m40 fun a41 m42 =>
  gK a39 false (fun k => k y1 m42) m42 fun a43 m44 =>
  gK a39 false (fun k => binK .sub a43 (.int .i64 1) fun a45 =>
  k a45 m44) m44 fun a46 m47 =>
  gK a39 false (fun k => vK (aIndexAddr m47 2 a41 a46) m47 fun a48 m49 =>
  k a48 m49) m47 fun a50 m51 =>
  gK a39 false (fun k => vK (aIndexAddrA 2 1 a50 (.int .i64 0)) m51 fun a52 m53 =>
  k a52 m53) m51 fun a54 m55 =>
  gK a39 false (fun k => loadK none a54 m55 fun a56 m57 =>
  k a56 m57) m55 fun a58 m59 =>
  gK a39 false (fun k => k y0 m59) m59 fun a60 m61 =>
  gK a39 false (fun k => k y1 m61) m61 fun a62 m63 =>
  gK a39 false (fun k => vK (aIndexAddr m63 2 a60 a62) m63 fun a64 m65 =>
  k a64 m65) m63 fun a66 m67 =>
  gK a39 false (fun k => vK (aIndexAddrA 2 1 a66 (.int .i64 0)) m67 fun a68 m69 =>
  k a68 m69) m67 fun a70 m71 =>
  gK a39 false (fun k => loadK none a70 m71 fun a72 m73 =>
  k a72 m73) m71 fun a74 m75 =>
  gK a39 false (fun k => binK .eql a58 a74 fun a76 =>
  k a76 m75) m75 fun a77 m78 =>
  gK a39 false (fun k => k a77 m78) m78 fun a79 m80 =>
  gK a79 true (fun k => k y0 m80) m80 fun a81 m82 =>
  gK a79 true (fun k => k y1 m82) m82 fun a83 m84 =>
  gK a79 true (fun k => binK .sub a83 (.int .i64 1) fun a85 =>
  k a85 m84) m84 fun a86 m87 =>
  gK a79 true (fun k => vK (aIndexAddr m87 2 a81 a86) m87 fun a88 m89 =>
  k a88 m89) m87 fun a90 m91 =>
  gK a79 true (fun k => vK (aIndexAddrA 2 1 a90 (.int .i64 1)) m91 fun a92 m93 =>
  k a92 m93) m91 fun a94 m95 =>
  gK a79 true (fun k => loadK none a94 m95 fun a96 m97 =>
  k a96 m97) m95 fun a98 m99 =>
  gK a79 true (fun k => k y0 m99) m99 fun a100 m101 =>
  gK a79 true (fun k => k y1 m101) m101 fun a102 m103 =>
  gK a79 true (fun k => vK (aIndexAddr m103 2 a100 a102) m103 fun a104 m105 =>
  k a104 m105) m103 fun a106 m107 =>
  gK a79 true (fun k => vK (aIndexAddrA 2 1 a106 (.int .i64 1)) m107 fun a108 m109 =>
  k a108 m109) m107 fun a110 m111 =>
  gK a79 true (fun k => loadK none a110 m111 fun a112 m113 =>
  k a112 m113) m111 fun a114 m115 =>
  gK a79 true (fun k => binK .geq a98 a114 fun a116 =>
  k a116 m115) m115 fun a117 m118 =>
  gK a39 false (fun k => pickK a79 (some a117) (some (.bool false)) fun a119 =>
  k a119 m118) m118 fun a120 m121 =>
  gK a0 true (fun k => pickK a39 (some (.bool true)) (some a120) fun a122 =>
  k a122 m121) m121 fun a123 m124 =>
  pickK a0 (some a123) (some (.bool false)) fun a125 =>
  condK a125
  (kx .ret [(2, (.bool false))] m124)
  (Q30_3 y0 y1 m124)
theorem g30_2 (call : CL) (n : Nat) (kn : KN) (kx : KX) (b30_3 : C) (k30_3 : KN) (x30_3 : KX) (y0 y1 : AV) (m : Mem) : evK call n b30_2 [(0, y0), (3, y1)] m (jn call n [0, 3] b30_3 k30_3 x30_3) (blkK 1 (jn call n [0, 3] b30_3 k30_3 x30_3) kx) = G30_2 call n kn kx (fun x0 x1 m => evK call n b30_3 [(0, x0), (3, x1)] m k30_3 x30_3) y0 y1 m := by kernel_rfl
def k30_2 (call : CL) (n : Nat) (kn : KN) (kx : KX) : KN := (jn call n [0, 3] b30_3 (k30_3 call n kn kx) (x30_3 call n kn kx))
def x30_2 (call : CL) (n : Nat) (kn : KN) (kx : KX) : KX := (blkK 1 (jn call n [0, 3] b30_3 (k30_3 call n kn kx) (x30_3 call n kn kx)) kx)
def S30_2 (call : CL) (n : Nat) (kn : KN) (kx : KX) (y0 y1 : AV) (m : Mem) : Rho := G30_2 call n kn kx (S30_3 call n kn kx) y0 y1 m
def d30_2 (call : CL) (n : Nat) (kn : KN) (kx : KX) (y0 y1 : AV) (m : Mem) : Rho := evK call n b30_2 [(0, y0), (3, y1)] m (k30_2 call n kn kx) (x30_2 call n kn kx)
theorem l30_2 {call : CL} {n : Nat} {kn : KN} {kx : KX} : d30_2 call n kn kx = S30_2 call n kn kx := by
  funext y0 y1 m
  have h : d30_2 call n kn kx y0 y1 m = G30_2 call n kn kx (d30_3 call n kn kx) y0 y1 m := Eq.mp (by kernel_rfl) (g30_2 call n kn kx b30_3 (k30_3 call n kn kx) (x30_3 call n kn kx) y0 y1 m)
  rw [l30_3] at h; exact h
def G30_4 (call : CL) (n : Nat) (kn : KN) (kx : KX) (Q30_2 : Y2) (y0 y1 : AV) (m : Mem) : Rho :=
  vK (aIndexAddr m 2 y0 y1) m fun a0 m1 =>
  vK (aIndexAddrA 2 1 a0 (.int .i64 0)) m1 fun a2 m3 =>
  loadK none a2 m3 fun a4 m5 =>
  binK .lss a4 (.int .i64 0) fun a6 =>
  gK a6 false (fun k => k y0 m5) m5 fun a7 m8 =>
  gK a6 false (fun k => k y1 m8) m8 fun a9 m10 =>
  gK a6 false (fun k => vK (aIndexAddr m10 2 a7 a9) m10 fun a11 m12 =>
  k a11 m12) m10 fun a13 m14 =>
  gK a6 false (fun k => vK (aIndexAddrA 2 1 a13 (.int .i64 0)) m14 fun a15 m16 =>
  k a15 m16) m14 fun a17 m18 =>
  gK a6 false (fun k => loadK none a17 m18 fun a19 m20 =>
  k a19 m20) m18 fun a21 m22 =>
  gK a6 false (fun k => k y0 m22) m22 fun a23 m24 =>
  gK a6 false (fun k => k y1 m24) m24 fun a25 m26 =>
  gK a6 false (fun k => vK (aIndexAddr m26 2 a23 a25) m26 fun a27 m28 =>
  k a27 m28) m26 fun a29 m30 =>
  gK a6 false (fun k => vK (aIndexAddrA 2 1 a29 (.int .i64 1)) m30 fun a31 m32 =>
  k a31 m32) m30 fun a33 m34 =>
  gK a6 false (fun k => loadK none a33 m34 fun a35 m36 =>
  k a35 m36) m34 fun a37 m38 =>
  gK a6 false (fun k => binK .geq a21 a37 fun a39 =>
  k a39 m38) m38 fun a40 m41 =>
  pickK a6 (some (.bool true)) (some a40) fun a42 =>
  condK a42
  (kx .ret [(2, (.bool false))] m41)
  (Q30_2 y0 y1 m41)
theorem g30_4 (call : CL) (n : Nat) (kn : KN) (kx : KX) (b30_2 : C) (b30_3 : C) (y0 y1 : AV) (m : Mem) : evK call n (c30_4 b30_2 b30_3) [(0, y0), (3, y1)] m kn kx = G30_4 call n kn kx (fun x0 x1 m => evK call n b30_2 [(0, x0), (3, x1)] m (jn call n [0, 3] b30_3 kn kx) (blkK 1 (jn call n [0, 3] b30_3 kn kx) kx)) y0 y1 m := by kernel_rfl
def k30_4 (call : CL) (n : Nat) (kn : KN) (kx : KX) : KN := kn
def x30_4 (call : CL) (n : Nat) (kn : KN) (kx : KX) : KX := kx
def S30_4 (call : CL) (n : Nat) (kn : KN) (kx : KX) (y0 y1 : AV) (m : Mem) : Rho := G30_4 call n kn kx (S30_2 call n kn kx) y0 y1 m
def d30_4 (call : CL) (n : Nat) (kn : KN) (kx : KX) (y0 y1 : AV) (m : Mem) : Rho := evK call n b30_4 [(0, y0), (3, y1)] m (k30_4 call n kn kx) (x30_4 call n kn kx)
theorem l30_4 {call : CL} {n : Nat} {kn : KN} {kx : KX} : d30_4 call n kn kx = S30_4 call n kn kx := by
  funext y0 y1 m
  have h : d30_4 call n kn kx y0 y1 m = G30_4 call n kn kx (d30_2 call n kn kx) y0 y1 m := Eq.mp (by kernel_rfl) (g30_4 call n kn kx b30_2 b30_3 y0 y1 m)
  rw [l30_2] at h; exact h
def G30_5 (call : CL) (n : Nat) (kn : KN) (kx : KX) (Q30_4 : Y2) (y0 y1 : AV) (m : Mem) : Rho :=
  vK (aLen m 1 y0) m fun a0 m1 =>
  binK .lss y1 a0 fun a2 =>
  condK a2
  (Q30_4 y0 y1 m1)
  (kx (.ext 0) [(0, y0), (3, y1), (7, a2)] m1)
theorem g30_5 (call : CL) (n : Nat) (kn : KN) (kx : KX) (b30_4 : C) (y0 y1 : AV) (m : Mem) : evK call n (c30_5 b30_4) [(0, y0), (3, y1)] m kn kx = G30_5 call n kn kx (fun x0 x1 m => evK call n b30_4 [(0, x0), (3, x1)] m kn kx) y0 y1 m := by kernel_rfl
def S30_5 (call : CL) (n : Nat) (kn : KN) (kx : KX) (y0 y1 : AV) (m : Mem) : Rho := G30_5 call n kn kx (S30_4 call n kn kx) y0 y1 m
def d30_5 (call : CL) (n : Nat) (kn : KN) (kx : KX) (y0 y1 : AV) (m : Mem) : Rho := evK call n b30_5 [(0, y0), (3, y1)] m kn kx
theorem l30_5 {call : CL} {n : Nat} : d30_5 call n = S30_5 call n := by
  funext kn kx y0 y1 m
  have h : d30_5 call n kn kx y0 y1 m = G30_5 call n kn kx (d30_4 call n kn kx) y0 y1 m := Eq.mp (by kernel_rfl) (g30_5 call n kn kx b30_4 y0 y1 m)
  rw [l30_4] at h; exact h
def G30 (call : CL) (n : Nat) (m0 : Mem) (B30_5 : KN → KX → Y2) (Q30_6 : Y0) (y0 : AV) (m : Mem) : Rho :=
  loopV [0, 3] none (fun vs m kn kx => unc vs fun x0 vs => unc vs fun x1 vs => unz vs (B30_5 kn kx x0 x1 m)) (blkK 0 (fun e m => keepK e [] fun vs => unz vs (Q30_6 m)) (endK f30 m0)) n [y0, (.int .i64 0)] m
theorem g30 (call : CL) (n : Nat) (m0 : Mem) (b30_5 : C) (b30_6 : C) (y0 : AV) (m : Mem) : evK call n (c30 b30_5 b30_6) [(0, y0)] m (fun e m => endK f30 m0 .nrm e m) (endK f30 m0) = G30 call n m0 (fun kn kx x0 x1 m => evK call n b30_5 [(0, x0), (3, x1)] m kn kx) (fun m => evK call n b30_6 [] m (fun e m => endK f30 m0 .nrm e m) (endK f30 m0)) y0 m := by kernel_rfl
def S30 (call : CL) (n : Nat) (m0 : Mem) (y0 : AV) : Rho := G30 call n m0 (S30_5 call n) (S30_6 call n m0) y0 { m0 with bad := none }
theorem s30 (call : CL) (n : Nat) (m0 : Mem) (y0 : AV) : bodyK call n f30 [y0] m0 = S30 call n m0 y0 :=
  have h : bodyK call n f30 [y0] m0 = G30 call n m0 (d30_5 call n) (d30_6 call n m0) y0 { m0 with bad := none } := Eq.mp (by kernel_rfl) (g30 call n m0 b30_5 b30_6 y0 { m0 with bad := none })
  by rw [l30_5, l30_6] at h; exact h
def F30 : SF := fun call n vs m0 => unc vs fun x0 vs => unz vs (S30 call n m0 x0)
theorem F30_ok {orc : List AV → Mem → Option (AV × Mem)} : SOk 30 { f30 with orc := orc } F30 := by
  intro call n vs m0 ho r h0
  simp only [F30] at h0
  obtain ⟨y0, v0, rfl, h1⟩ := unc_some h0
  obtain ⟨rfl, hz⟩ := unz_some h1
  exact bodyK_le ho rfl r (Eq.mp (by kernel_rfl) ((s30 call n m0 y0).trans hz))

-- resolvent/resolventref17.Has
def G31_3 (call : CL) (n : Nat) (m0 : Mem) (m : Mem) : Rho :=
  retK false false m0 [(.bool false)] m
theorem g31_3 (call : CL) (n : Nat) (m0 : Mem) (m : Mem) : evK call n b31_3 [] m (fun e m => endK f31 m0 .nrm e m) (endK f31 m0) = G31_3 call n m0 m := by kernel_rfl
def k31_3 (call : CL) (n : Nat) (m0 : Mem) : KN := (fun e m => endK f31 m0 .nrm e m)
def x31_3 (call : CL) (n : Nat) (m0 : Mem) : KX := (endK f31 m0)
def S31_3 (call : CL) (n : Nat) (m0 : Mem) (m : Mem) : Rho := G31_3 call n m0 m
def d31_3 (call : CL) (n : Nat) (m0 : Mem) (m : Mem) : Rho := evK call n b31_3 [] m (k31_3 call n m0) (x31_3 call n m0)
theorem l31_3 {call : CL} {n : Nat} {m0 : Mem} : d31_3 call n m0 = S31_3 call n m0 := by
  funext m
  have h : d31_3 call n m0 m = G31_3 call n m0 m := Eq.mp (by kernel_rfl) (g31_3 call n m0 m)
  exact h
def G31_0 (call : CL) (n : Nat) (kn : KN) (kx : KX) (y0 y1 y2 y3 : AV) (m : Mem) : Rho :=
  binK .add y3 (.int .i64 1) fun a0 =>
  kn [(0, y0), (1, y1), (2, y2), (7, a0)] m
theorem g31_0 (call : CL) (n : Nat) (kn : KN) (kx : KX) (y0 y1 y2 y3 : AV) (m : Mem) : evK call n b31_0 [(0, y0), (1, y1), (2, y2), (7, y3)] m kn kx = G31_0 call n kn kx y0 y1 y2 y3 m := by kernel_rfl
def k31_0 (call : CL) (n : Nat) (kn : KN) (kx : KX) : KN := kn
def x31_0 (call : CL) (n : Nat) (kn : KN) (kx : KX) : KX := kx
def S31_0 (call : CL) (n : Nat) (kn : KN) (kx : KX) (y0 y1 y2 y3 : AV) (m : Mem) : Rho := G31_0 call n kn kx y0 y1 y2 y3 m
def d31_0 (call : CL) (n : Nat) (kn : KN) (kx : KX) (y0 y1 y2 y3 : AV) (m : Mem) : Rho := evK call n b31_0 [(0, y0), (1, y1), (2, y2), (7, y3)] m (k31_0 call n kn kx) (x31_0 call n kn kx)
theorem l31_0 {call : CL} {n : Nat} {kn : KN} {kx : KX} : d31_0 call n kn kx = S31_0 call n kn kx := by
  funext y0 y1 y2 y3 m
  have h : d31_0 call n kn kx y0 y1 y2 y3 m = G31_0 call n kn kx y0 y1 y2 y3 m := Eq.mp (by kernel_rfl) (g31_0 call n kn kx y0 y1 y2 y3 m)
  exact h
def G31_1 (call : CL) (n : Nat) (kn : KN) (kx : KX) (Q31_0 : Y4) (y0 y1 y2 y3 : AV) (m : Mem) : Rho :=
  vK (aIndexAddr m 2 y0 y3) m fun a0 m1 =>
  vK (aIndexAddrA 2 1 a0 (.int .i64 0)) m1 fun a2 m3 =>
  loadK none a2 m3 fun a4 m5 =>
  binK .eql a4 y1 fun a6 =>
  gK a6 true (fun k => k y0 m5) m5 fun a7 m8 =>
  gK a6 true (fun k => k y3 m8) m8 fun a9 m10 =>
  gK a6 true (fun k => vK (aIndexAddr m10 2 a7 a9) m10 fun a11 m12 =>
  k a11 m12) m10 fun a13 m14 =>
  gK a6 true (fun k => vK (aIndexAddrA 2 1 a13 (.int .i64 1)) m14 fun a15 m16 =>
  k a15 m16) m14 fun a17 m18 =>
  gK a6 true (fun k => loadK none a17 m18 fun a19 m20 =>
  k a19 m20) m18 fun a21 m22 =>
  gK a6 true (fun k => k y2 m22) m22 fun a23 m24 =>
  gK a6 true (fun k => binK .eql a21 a23 fun a25 =>
  k a25 m24) m24 fun a26 m27 =>
  pickK a6 (some a26) (some (.bool false)) fun a28 =>
  gK a28 false (fun k => k y0 m27) m27 fun a29 m30 =>
  gK a28 false (fun k => k y3 m30) m30 fun a31 m32 =>
  gK a28 false (fun k => vK (aIndexAddr m32 2 a29 a31) m32 fun a33 m34 =>
  k a33 m34) m32 fun a35 m36 =>
  gK a28 false (fun k => vK (aIndexAddrA 2 1 a35 (.int .i64 0)) m36 fun a37 m38 =>
  k a37 m38) m36 fun a39 m40 =>
  gK a28 false (fun k => loadK none a39 m40 fun a41 m42 =>
  k a41 m42) m40 fun a43 m44 =>
  gK a28 false (fun k => k y2 m44) m44 fun a45 m46 =>
  gK a28 false (fun k => binK .eql a43 a45 fun a47 =>
  k a47 m46) m46 fun a48 m49 =>
  gK a28 false (fun k => k a48 m49) m49 fun a50 m51 =>
  gK a50 true (fun k => k y0 m51) m51 fun a52 m53 =>
  gK a50 true (fun k => k y3 m53) m53 fun a54 m55 =>
  gK a50 true (fun k => vK (aIndexAddr m55 2 a52 a54) m55 fun a56 m57 =>
  k a56 m57) m55 fun a58 m59 =>
  gK a50 true (fun k => vK (aIndexAddrA 2 1 a58 (.int .i64 1)) m59 fun a60 m61 =>
  k a60 m61) m59 fun a62 m63 =>
  gK a50 true (fun k => loadK none a62 m63 fun a64 m65 =>
  k a64 m65) m63 fun a66 m67 =>
  gK a50 true (fun k => k y1 m67) m67 fun a68 m69 =>
  gK a50 true (fun k => binK .eql a66 a68 fun a70 =>
  k a70 m69) m69 fun a71 m72 =>
  gK a28 false (fun k => pickK a50 (some a71) (some (.bool false)) fun a73 =>
  k a73 m72) m72 fun a74 m75 =>
  pickK a28 (some (.bool true)) (some a74) fun a76 =>
  condK a76
  (kx .ret [(6, (.bool true))] m75)
  (Q31_0 y0 y1 y2 y3 m75)
theorem g31_1 (call : CL) (n : Nat) (kn : KN) (kx : KX) (b31_0 : C) (y0 y1 y2 y3 : AV) (m : Mem) : evK call n (c31_1 b31_0) [(0, y0), (1, y1), (2, y2), (7, y3)] m kn kx = G31_1 call n kn kx (fun x0 x1 x2 x3 m => evK call n b31_0 [(0, x0), (1, x1), (2, x2), (7, x3)] m kn kx) y0 y1 y2 y3 m := by kernel_rfl
def k31_1 (call : CL) (n : Nat) (kn : KN) (kx : KX) : KN := kn
def x31_1 (call : CL) (n : Nat) (kn : KN) (kx : KX) : KX := kx
def S31_1 (call : CL) (n : Nat) (kn : KN) (kx : KX) (y0 y1 y2 y3 : AV) (m : Mem) : Rho := G31_1 call n kn kx (S31_0 call n kn kx) y0 y1 y2 y3 m
def d31_1 (call : CL) (n : Nat) (kn : KN) (kx : KX) (y0 y1 y2 y3 : AV) (m : Mem) : Rho := evK call n b31_1 [(0, y0), (1, y1), (2, y2), (7, y3)] m (k31_1 call n kn kx) (x31_1 call n kn kx)
theorem l31_1 {call : CL} {n : Nat} {kn : KN} {kx : KX} : d31_1 call n kn kx = S31_1 call n kn kx := by
  funext y0 y1 y2 y3 m
  have h : d31_1 call n kn kx y0 y1 y2 y3 m = G31_1 call n kn kx (d31_0 call n kn kx) y0 y1 y2 y3 m := Eq.mp (by kernel_rfl) (g31_1 call n kn kx b31_0 y0 y1 y2 y3 m)
  rw [l31_0] at h; exact h
def G31_2 (call : CL) (n : Nat) (kn : KN) (kx : KX) (Q31_1 : Y4) (y0 y1 y2 y3 : AV) (m : Mem) : Rho :=
  vK (aLen m 1 y0) m fun a0 m1 =>
  binK .lss y3 a0 fun a2 =>
  condK a2
  (Q31_1 y0 y1 y2 y3 m1)
  (kx (.ext 0) [(0, y0), (1, y1), (2, y2), (7, y3), (22, a2)] m1)
theorem g31_2 (call : CL) (n : Nat) (kn : KN) (kx : KX) (b31_1 : C) (y0 y1 y2 y3 : AV) (m : Mem) : evK call n (c31_2 b31_1) [(0, y0), (1, y1), (2, y2), (7, y3)] m kn kx = G31_2 call n kn kx (fun x0 x1 x2 x3 m => evK call n b31_1 [(0, x0), (1, x1), (2, x2), (7, x3)] m kn kx) y0 y1 y2 y3 m := by kernel_rfl
def S31_2 (call : CL) (n : Nat) (kn : KN) (kx : KX) (y0 y1 y2 y3 : AV) (m : Mem) : Rho := G31_2 call n kn kx (S31_1 call n kn kx) y0 y1 y2 y3 m
def d31_2 (call : CL) (n : Nat) (kn : KN) (kx : KX) (y0 y1 y2 y3 : AV) (m : Mem) : Rho := evK call n b31_2 [(0, y0), (1, y1), (2, y2), (7, y3)] m kn kx
theorem l31_2 {call : CL} {n : Nat} : d31_2 call n = S31_2 call n := by
  funext kn kx y0 y1 y2 y3 m
  have h : d31_2 call n kn kx y0 y1 y2 y3 m = G31_2 call n kn kx (d31_1 call n kn kx) y0 y1 y2 y3 m := Eq.mp (by kernel_rfl) (g31_2 call n kn kx b31_1 y0 y1 y2 y3 m)
  rw [l31_1] at h; exact h
def G31_4 (call : CL) (n : Nat) (m0 : Mem) (B31_2 : KN → KX → Y4) (Q31_3 : Y0) (y0 y1 y2 : AV) (m : Mem) : Rho :=
  loopV [0, 1, 2, 7] none (fun vs m kn kx => unc vs fun x0 vs => unc vs fun x1 vs => unc vs fun x2 vs => unc vs fun x3 vs => unz vs (B31_2 kn kx x0 x1 x2 x3 m)) (blkK 0 (fun e m => keepK e [] fun vs => unz vs (Q31_3 m)) (endK f31 m0)) n [y0, y1, y2, (.int .i64 0)] m
theorem g31_4 (call : CL) (n : Nat) (m0 : Mem) (b31_2 : C) (b31_3 : C) (y0 y1 y2 : AV) (m : Mem) : evK call n (c31_4 b31_2 b31_3) [(0, y0), (1, y1), (2, y2)] m (fun e m => endK f31 m0 .nrm e m) (endK f31 m0) = G31_4 call n m0 (fun kn kx x0 x1 x2 x3 m => evK call n b31_2 [(0, x0), (1, x1), (2, x2), (7, x3)] m kn kx) (fun m => evK call n b31_3 [] m (fun e m => endK f31 m0 .nrm e m) (endK f31 m0)) y0 y1 y2 m := by kernel_rfl
def k31_4 (call : CL) (n : Nat) (m0 : Mem) : KN := (fun e m => endK f31 m0 .nrm e m)
def x31_4 (call : CL) (n : Nat) (m0 : Mem) : KX := (endK f31 m0)
def S31_4 (call : CL) (n : Nat) (m0 : Mem) (y0 y1 y2 : AV) (m : Mem) : Rho := G31_4 call n m0 (S31_2 call n) (S31_3 call n m0) y0 y1 y2 m
def d31_4 (call : CL) (n : Nat) (m0 : Mem) (y0 y1 y2 : AV) (m : Mem) : Rho := evK call n b31_4 [(0, y0), (1, y1), (2, y2)] m (k31_4 call n m0) (x31_4 call n m0)
theorem l31_4 {call : CL} {n : Nat} {m0 : Mem} : d31_4 call n m0 = S31_4 call n m0 := by
  funext y0 y1 y2 m
  have h : d31_4 call n m0 y0 y1 y2 m = G31_4 call n m0 (d31_2 call n) (d31_3 call n m0) y0 y1 y2 m := Eq.mp (by kernel_rfl) (g31_4 call n m0 b31_2 b31_3 y0 y1 y2 m)
  rw [l31_2, l31_3] at h; exact h
def G31 (call : CL) (n : Nat) (m0 : Mem) (Q31_4 : Y3) (y0 y1 y2 : AV) (m : Mem) : Rho :=
  binK .lss y1 (.int .i64 0) fun a0 =>
  gK a0 false (fun k => k y2 m) m fun a1 m2 =>
  gK a0 false (fun k => binK .lss a1 (.int .i64 0) fun a3 =>
  k a3 m2) m2 fun a4 m5 =>
  pickK a0 (some (.bool true)) (some a4) fun a6 =>
  gK a6 false (fun k => k y1 m5) m5 fun a7 m8 =>
  gK a6 false (fun k => k y2 m8) m8 fun a9 m10 =>
  gK a6 false (fun k => binK .eql a7 a9 fun a11 =>
  k a11 m10) m10 fun a12 m13 =>
  pickK a6 (some (.bool true)) (some a12) fun a14 =>
  condK a14
  (retK false false m0 [(.bool false)] m13)
  (Q31_4 y0 y1 y2 m13)
theorem g31 (call : CL) (n : Nat) (m0 : Mem) (b31_4 : C) (y0 y1 y2 : AV) (m : Mem) : evK call n (c31 b31_4) [(0, y0), (1, y1), (2, y2)] m (fun e m => endK f31 m0 .nrm e m) (endK f31 m0) = G31 call n m0 (fun x0 x1 x2 m => evK call n b31_4 [(0, x0), (1, x1), (2, x2)] m (fun e m => endK f31 m0 .nrm e m) (endK f31 m0)) y0 y1 y2 m := by kernel_rfl
def S31 (call : CL) (n : Nat) (m0 : Mem) (y0 y1 y2 : AV) : Rho := G31 call n m0 (S31_4 call n m0) y0 y1 y2 { m0 with bad := none }
theorem s31 (call : CL) (n : Nat) (m0 : Mem) (y0 y1 y2 : AV) : bodyK call n f31 [y0, y1, y2] m0 = S31 call n m0 y0 y1 y2 :=
  have h : bodyK call n f31 [y0, y1, y2] m0 = G31 call n m0 (d31_4 call n m0) y0 y1 y2 { m0 with bad := none } := Eq.mp (by kernel_rfl) (g31 call n m0 b31_4 y0 y1 y2 { m0 with bad := none })
  by rw [l31_4] at h; exact h
def F31 : SF := fun call n vs m0 => unc vs fun x0 vs => unc vs fun x1 vs => unc vs fun x2 vs => unz vs (S31 call n m0 x0 x1 x2)
theorem F31_ok {orc : List AV → Mem → Option (AV × Mem)} : SOk 31 { f31 with orc := orc } F31 := by
  intro call n vs m0 ho r h0
  simp only [F31] at h0
  obtain ⟨y0, v0, rfl, h1⟩ := unc_some h0
  obtain ⟨y1, v1, rfl, h2⟩ := unc_some h1
  obtain ⟨y2, v2, rfl, h3⟩ := unc_some h2
  obtain ⟨rfl, hz⟩ := unz_some h3
  exact bodyK_le ho rfl r (Eq.mp (by kernel_rfl) ((s31 call n m0 y0 y1 y2).trans hz))

-- resolvent/pairs.Of
def G32 (call : CL) (n : Nat) (m0 : Mem) (y0 : AV) (m : Mem) : Rho :=
  callK call (.func 61 [] []) false [y0] m fun a0 m1 =>
  callK call (.func 62 [] []) false [a0] m1 fun a2 m3 =>
  callK call (.func 63 [] []) false [a2, (.func 64 [] [])] m3 fun a4 m5 =>
  callK call (.func 67 [] []) false [a2] m5 fun a6 m7 =>
  retK false false m0 [a6] m7
theorem g32 (call : CL) (n : Nat) (m0 : Mem) (y0 : AV) (m : Mem) : evK call n b32 [(0, y0)] m (fun e m => endK f32 m0 .nrm e m) (endK f32 m0) = G32 call n m0 y0 m := by kernel_rfl
def S32 (call : CL) (n : Nat) (m0 : Mem) (y0 : AV) : Rho := G32 call n m0 y0 { m0 with bad := none }
theorem s32 (call : CL) (n : Nat) (m0 : Mem) (y0 : AV) : bodyK call n f32 [y0] m0 = S32 call n m0 y0 :=
  have h : bodyK call n f32 [y0] m0 = G32 call n m0 y0 { m0 with bad := none } := Eq.mp (by kernel_rfl) (g32 call n m0 y0 { m0 with bad := none })
  h
def F32 : SF := fun call n vs m0 => unc vs fun x0 vs => unz vs (S32 call n m0 x0)
theorem F32_ok {orc : List AV → Mem → Option (AV × Mem)} : SOk 32 { f32 with orc := orc } F32 := by
  intro call n vs m0 ho r h0
  simp only [F32] at h0
  obtain ⟨y0, v0, rfl, h1⟩ := unc_some h0
  obtain ⟨rfl, hz⟩ := unz_some h1
  exact bodyK_le ho rfl r (Eq.mp (by kernel_rfl) ((s32 call n m0 y0).trans hz))

-- resolvent/pairs.Union
def G33 (call : CL) (n : Nat) (m0 : Mem) (y0 y1 : AV) (m : Mem) : Rho :=
  buildSliceK 1 [(.list .full 0 [])] 2 false [(0 * 1, 1, AV.untag y0), (1 * 1, 1, AV.untag y1)] m fun a0 m1 =>
  callK call (.func 68 [] []) false [a0] m1 fun a2 m3 =>
  callK call (.func 32 [] []) false [a2] m3 fun a4 m5 =>
  retK false false m0 [a4] m5
theorem g33 (call : CL) (n : Nat) (m0 : Mem) (y0 y1 : AV) (m : Mem) : evK call n b33 [(0, y0), (1, y1)] m (fun e m => endK f33 m0 .nrm e m) (endK f33 m0) = G33 call n m0 y0 y1 m := by kernel_rfl
def S33 (call : CL) (n : Nat) (m0 : Mem) (y0 y1 : AV) : Rho := G33 call n m0 y0 y1 { m0 with bad := none }
theorem s33 (call : CL) (n : Nat) (m0 : Mem) (y0 y1 : AV) : bodyK call n f33 [y0, y1] m0 = S33 call n m0 y0 y1 :=
  have h : bodyK call n f33 [y0, y1] m0 = G33 call n m0 y0 y1 { m0 with bad := none } := Eq.mp (by kernel_rfl) (g33 call n m0 y0 y1 { m0 with bad := none })
  h
def F33 : SF := fun call n vs m0 => unc vs fun x0 vs => unc vs fun x1 vs => unz vs (S33 call n m0 x0 x1)
theorem F33_ok {orc : List AV → Mem → Option (AV × Mem)} : SOk 33 { f33 with orc := orc } F33 := by
  intro call n vs m0 ho r h0
  simp only [F33] at h0
  obtain ⟨y0, v0, rfl, h1⟩ := unc_some h0
  obtain ⟨y1, v1, rfl, h2⟩ := unc_some h1
  obtain ⟨rfl, hz⟩ := unz_some h2
  exact bodyK_le ho rfl r (Eq.mp (by kernel_rfl) ((s33 call n m0 y0 y1).trans hz))

end
end Go.Proofs.P17
