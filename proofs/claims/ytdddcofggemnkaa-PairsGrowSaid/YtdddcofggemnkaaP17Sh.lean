
import Derived.Test.YtdddcofggemnkaaP17ShA
namespace Go.Proofs.P17
set_option linter.all false
open Go Go.Am
noncomputable section
-- resolvent/pairs.Close
def G34_5 (call : CL) (n : Nat) (m0 : Mem) (y0 : AV) (m : Mem) : Rho :=
  callK call (.func 32 [] []) false [y0] m fun a0 m1 =>
  retK false false m0 [a0] m1
theorem g34_5 (call : CL) (n : Nat) (m0 : Mem) (y0 : AV) (m : Mem) : evK call n b34_5 [(5, y0)] m (fun e m => endK f34 m0 .nrm e m) (endK f34 m0) = G34_5 call n m0 y0 m := by kernel_rfl
def k34_5 (call : CL) (n : Nat) (m0 : Mem) : KN := (fun e m => endK f34 m0 .nrm e m)
def x34_5 (call : CL) (n : Nat) (m0 : Mem) : KX := (endK f34 m0)
def S34_5 (call : CL) (n : Nat) (m0 : Mem) (y0 : AV) (m : Mem) : Rho := G34_5 call n m0 y0 m
def d34_5 (call : CL) (n : Nat) (m0 : Mem) (y0 : AV) (m : Mem) : Rho := evK call n b34_5 [(5, y0)] m (k34_5 call n m0) (x34_5 call n m0)
theorem l34_5 {call : CL} {n : Nat} {m0 : Mem} : d34_5 call n m0 = S34_5 call n m0 := by
  funext y0 m
  have h : d34_5 call n m0 y0 m = G34_5 call n m0 y0 m := Eq.mp (by kernel_rfl) (g34_5 call n m0 y0 m)
  exact h
def G34_2 (call : CL) (n : Nat) (kn : KN) (kx : KX) (y0 y1 y2 y3 y4 : AV) (m : Mem) : Rho :=
  binK .add y4 (.int .i64 1) fun a0 =>
  kn [(1, y0), (5, y1), (12, y2), (13, y3), (14, a0)] m
theorem g34_2 (call : CL) (n : Nat) (kn : KN) (kx : KX) (y0 y1 y2 y3 y4 : AV) (m : Mem) : evK call n b34_2 [(1, y0), (5, y1), (12, y2), (13, y3), (14, y4)] m kn kx = G34_2 call n kn kx y0 y1 y2 y3 y4 m := by kernel_rfl
def k34_2 (call : CL) (n : Nat) (kn : KN) (kx : KX) : KN := kn
def x34_2 (call : CL) (n : Nat) (kn : KN) (kx : KX) : KX := kx
def S34_2 (call : CL) (n : Nat) (kn : KN) (kx : KX) (y0 y1 y2 y3 y4 : AV) (m : Mem) : Rho := G34_2 call n kn kx y0 y1 y2 y3 y4 m
def d34_2 (call : CL) (n : Nat) (kn : KN) (kx : KX) (y0 y1 y2 y3 y4 : AV) (m : Mem) : Rho := evK call n b34_2 [(1, y0), (5, y1), (12, y2), (13, y3), (14, y4)] m (k34_2 call n kn kx) (x34_2 call n kn kx)
theorem l34_2 {call : CL} {n : Nat} {kn : KN} {kx : KX} : d34_2 call n kn kx = S34_2 call n kn kx := by
  funext y0 y1 y2 y3 y4 m
  have h : d34_2 call n kn kx y0 y1 y2 y3 y4 m = G34_2 call n kn kx y0 y1 y2 y3 y4 m := Eq.mp (by kernel_rfl) (g34_2 call n kn kx y0 y1 y2 y3 y4 m)
  exact h
def G34_0 (call : CL) (n : Nat) (kn : KN) (kx : KX) (y0 y1 y2 y3 y4 y5 y6 y7 y8 : AV) (m : Mem) : Rho :=
  vK (aIndexAddr m 1 y6 y8) m fun a0 m1 =>
  loadK none a0 m1 fun a2 m3 =>
  buildK [(.int .i64 0), (.int .i64 0)] [(0, 1, AV.untag1 y2), (1, 1, AV.untag1 a2)] fun a4 =>
  buildSliceK 2 [(.int .i64 0), (.int .i64 0)] 1 false [(0 * 2, 2, AV.untag a4)] m3 fun a5 m6 =>
  appendK 2 16 1 y1 a5 m6 fun a7 m8 =>
  binK .add y8 (.int .i64 1) fun a9 =>
  kn [(1, y0), (5, a7), (7, y2), (12, y3), (13, y4), (14, y5), (21, y6), (22, y7), (23, a9)] m8
theorem g34_0 (call : CL) (n : Nat) (kn : KN) (kx : KX) (y0 y1 y2 y3 y4 y5 y6 y7 y8 : AV) (m : Mem) : evK call n b34_0 [(1, y0), (5, y1), (7, y2), (12, y3), (13, y4), (14, y5), (21, y6), (22, y7), (23, y8)] m kn kx = G34_0 call n kn kx y0 y1 y2 y3 y4 y5 y6 y7 y8 m := by kernel_rfl
def k34_0 (call : CL) (n : Nat) (kn : KN) (kx : KX) : KN := kn
def x34_0 (call : CL) (n : Nat) (kn : KN) (kx : KX) : KX := kx
def S34_0 (call : CL) (n : Nat) (kn : KN) (kx : KX) (y0 y1 y2 y3 y4 y5 y6 y7 y8 : AV) (m : Mem) : Rho := G34_0 call n kn kx y0 y1 y2 y3 y4 y5 y6 y7 y8 m
def d34_0 (call : CL) (n : Nat) (kn : KN) (kx : KX) (y0 y1 y2 y3 y4 y5 y6 y7 y8 : AV) (m : Mem) : Rho := evK call n b34_0 [(1, y0), (5, y1), (7, y2), (12, y3), (13, y4), (14, y5), (21, y6), (22, y7), (23, y8)] m (k34_0 call n kn kx) (x34_0 call n kn kx)
theorem l34_0 {call : CL} {n : Nat} {kn : KN} {kx : KX} : d34_0 call n kn kx = S34_0 call n kn kx := by
  funext y0 y1 y2 y3 y4 y5 y6 y7 y8 m
  have h : d34_0 call n kn kx y0 y1 y2 y3 y4 y5 y6 y7 y8 m = G34_0 call n kn kx y0 y1 y2 y3 y4 y5 y6 y7 y8 m := Eq.mp (by kernel_rfl) (g34_0 call n kn kx y0 y1 y2 y3 y4 y5 y6 y7 y8 m)
  exact h
def G34_1 (call : CL) (n : Nat) (kn : KN) (kx : KX) (Q34_0 : Y9) (y0 y1 y2 y3 y4 y5 y6 y7 y8 : AV) (m : Mem) : Rho :=
  binK .lss y8 y7 fun a0 =>
  condK a0
  (Q34_0 y0 y1 y2 y3 y4 y5 y6 y7 y8 m)
  (kx (.ext 2) [(1, y0), (5, y1), (7, y2), (12, y3), (13, y4), (14, y5), (21, y6), (22, y7), (23, y8), (24, a0)] m)
theorem g34_1 (call : CL) (n : Nat) (kn : KN) (kx : KX) (b34_0 : C) (y0 y1 y2 y3 y4 y5 y6 y7 y8 : AV) (m : Mem) : evK call n (c34_1 b34_0) [(1, y0), (5, y1), (7, y2), (12, y3), (13, y4), (14, y5), (21, y6), (22, y7), (23, y8)] m kn kx = G34_1 call n kn kx (fun x0 x1 x2 x3 x4 x5 x6 x7 x8 m => evK call n b34_0 [(1, x0), (5, x1), (7, x2), (12, x3), (13, x4), (14, x5), (21, x6), (22, x7), (23, x8)] m kn kx) y0 y1 y2 y3 y4 y5 y6 y7 y8 m := by kernel_rfl
def S34_1 (call : CL) (n : Nat) (kn : KN) (kx : KX) (y0 y1 y2 y3 y4 y5 y6 y7 y8 : AV) (m : Mem) : Rho := G34_1 call n kn kx (S34_0 call n kn kx) y0 y1 y2 y3 y4 y5 y6 y7 y8 m
def d34_1 (call : CL) (n : Nat) (kn : KN) (kx : KX) (y0 y1 y2 y3 y4 y5 y6 y7 y8 : AV) (m : Mem) : Rho := evK call n b34_1 [(1, y0), (5, y1), (7, y2), (12, y3), (13, y4), (14, y5), (21, y6), (22, y7), (23, y8)] m kn kx
theorem l34_1 {call : CL} {n : Nat} : d34_1 call n = S34_1 call n := by
  funext kn kx y0 y1 y2 y3 y4 y5 y6 y7 y8 m
  have h : d34_1 call n kn kx y0 y1 y2 y3 y4 y5 y6 y7 y8 m = G34_1 call n kn kx (d34_0 call n kn kx) y0 y1 y2 y3 y4 y5 y6 y7 y8 m := Eq.mp (by kernel_rfl) (g34_1 call n kn kx b34_0 y0 y1 y2 y3 y4 y5 y6 y7 y8 m)
  rw [l34_0] at h; exact h
def G34_3 (call : CL) (n : Nat) (kn : KN) (kx : KX) (B34_1 : KN → KX → Y9) (Q34_2 : Y5) (y0 y1 y2 y3 y4 : AV) (m : Mem) : Rho :=
  vK (aIndexAddr m 1 y2 y4) m fun a0 m1 =>
  loadK none a0 m1 fun a2 m3 =>
  vK (aSlice 1 y0 none (some y4)) m3 fun a4 m5 =>
  vK (aLen m5 1 a4) m5 fun a6 m7 =>
  loopV [1, 5, 7, 12, 13, 14, 21, 22, 23] none (fun vs m kn kx => unc vs fun x0 vs => unc vs fun x1 vs => unc vs fun x2 vs => unc vs fun x3 vs => unc vs fun x4 vs => unc vs fun x5 vs => unc vs fun x6 vs => unc vs fun x7 vs => unc vs fun x8 vs => unz vs (B34_1 kn kx x0 x1 x2 x3 x4 x5 x6 x7 x8 m)) (blkK 2 (fun e m => keepK e [1, 5, 12, 13, 14] fun vs => unc vs fun x0 vs => unc vs fun x1 vs => unc vs fun x2 vs => unc vs fun x3 vs => unc vs fun x4 vs => unz vs (Q34_2 x0 x1 x2 x3 x4 m)) (blkK 1 (fun e m => keepK e [1, 5, 12, 13, 14] fun vs => unc vs fun x0 vs => unc vs fun x1 vs => unc vs fun x2 vs => unc vs fun x3 vs => unc vs fun x4 vs => unz vs (Q34_2 x0 x1 x2 x3 x4 m)) kx)) n [y0, y1, a2, y2, y3, y4, a4, a6, (.int .i64 0)] m7
theorem g34_3 (call : CL) (n : Nat) (kn : KN) (kx : KX) (b34_1 : C) (b34_2 : C) (y0 y1 y2 y3 y4 : AV) (m : Mem) : evK call n (c34_3 b34_1 b34_2) [(1, y0), (5, y1), (12, y2), (13, y3), (14, y4)] m kn kx = G34_3 call n kn kx (fun kn kx x0 x1 x2 x3 x4 x5 x6 x7 x8 m => evK call n b34_1 [(1, x0), (5, x1), (7, x2), (12, x3), (13, x4), (14, x5), (21, x6), (22, x7), (23, x8)] m kn kx) (fun x0 x1 x2 x3 x4 m => evK call n b34_2 [(1, x0), (5, x1), (12, x2), (13, x3), (14, x4)] m kn kx) y0 y1 y2 y3 y4 m := by kernel_rfl
def k34_3 (call : CL) (n : Nat) (kn : KN) (kx : KX) : KN := kn
def x34_3 (call : CL) (n : Nat) (kn : KN) (kx : KX) : KX := kx
def S34_3 (call : CL) (n : Nat) (kn : KN) (kx : KX) (y0 y1 y2 y3 y4 : AV) (m : Mem) : Rho := G34_3 call n kn kx (S34_1 call n) (S34_2 call n kn kx) y0 y1 y2 y3 y4 m
def d34_3 (call : CL) (n : Nat) (kn : KN) (kx : KX) (y0 y1 y2 y3 y4 : AV) (m : Mem) : Rho := evK call n b34_3 [(1, y0), (5, y1), (12, y2), (13, y3), (14, y4)] m (k34_3 call n kn kx) (x34_3 call n kn kx)
theorem l34_3 {call : CL} {n : Nat} {kn : KN} {kx : KX} : d34_3 call n kn kx = S34_3 call n kn kx := by
  funext y0 y1 y2 y3 y4 m
  have h : d34_3 call n kn kx y0 y1 y2 y3 y4 m = G34_3 call n kn kx (d34_1 call n) (d34_2 call n kn kx) y0 y1 y2 y3 y4 m := Eq.mp (by kernel_rfl) (g34_3 call n kn kx b34_1 b34_2 y0 y1 y2 y3 y4 m)
  rw [l34_1, l34_2] at h; exact h
def G34_4 (call : CL) (n : Nat) (kn : KN) (kx : KX) (Q34_3 : Y5) (y0 y1 y2 y3 y4 : AV) (m : Mem) : Rho :=
  binK .lss y4 y3 fun a0 =>
  condK a0
  (Q34_3 y0 y1 y2 y3 y4 m)
  (kx (.ext 0) [(1, y0), (5, y1), (12, y2), (13, y3), (14, y4), (15, a0)] m)
theorem g34_4 (call : CL) (n : Nat) (kn : KN) (kx : KX) (b34_3 : C) (y0 y1 y2 y3 y4 : AV) (m : Mem) : evK call n (c34_4 b34_3) [(1, y0), (5, y1), (12, y2), (13, y3), (14, y4)] m kn kx = G34_4 call n kn kx (fun x0 x1 x2 x3 x4 m => evK call n b34_3 [(1, x0), (5, x1), (12, x2), (13, x3), (14, x4)] m kn kx) y0 y1 y2 y3 y4 m := by kernel_rfl
def S34_4 (call : CL) (n : Nat) (kn : KN) (kx : KX) (y0 y1 y2 y3 y4 : AV) (m : Mem) : Rho := G34_4 call n kn kx (S34_3 call n kn kx) y0 y1 y2 y3 y4 m
def d34_4 (call : CL) (n : Nat) (kn : KN) (kx : KX) (y0 y1 y2 y3 y4 : AV) (m : Mem) : Rho := evK call n b34_4 [(1, y0), (5, y1), (12, y2), (13, y3), (14, y4)] m kn kx
theorem l34_4 {call : CL} {n : Nat} : d34_4 call n = S34_4 call n := by
  funext kn kx y0 y1 y2 y3 y4 m
  have h : d34_4 call n kn kx y0 y1 y2 y3 y4 m = G34_4 call n kn kx (d34_3 call n kn kx) y0 y1 y2 y3 y4 m := Eq.mp (by kernel_rfl) (g34_4 call n kn kx b34_3 y0 y1 y2 y3 y4 m)
  rw [l34_3] at h; exact h
def G34 (call : CL) (n : Nat) (m0 : Mem) (B34_4 : KN → KX → Y5) (Q34_5 : Y1) (y0 y1 : AV) (m : Mem) : Rho :=
  callK call (.func 69 [] []) false [y0] m fun a0 m1 =>
  vK (aLen m1 1 y1) m1 fun a2 m3 =>
  loopV [1, 5, 12, 13, 14] none (fun vs m kn kx => unc vs fun x0 vs => unc vs fun x1 vs => unc vs fun x2 vs => unc vs fun x3 vs => unc vs fun x4 vs => unz vs (B34_4 kn kx x0 x1 x2 x3 x4 m)) (blkK 0 (fun e m => keepK e [5] fun vs => unc vs fun x0 vs => unz vs (Q34_5 x0 m)) (endK f34 m0)) n [y1, a0, y1, a2, (.int .i64 0)] m3
theorem g34 (call : CL) (n : Nat) (m0 : Mem) (b34_4 : C) (b34_5 : C) (y0 y1 : AV) (m : Mem) : evK call n (c34 b34_4 b34_5) [(0, y0), (1, y1)] m (fun e m => endK f34 m0 .nrm e m) (endK f34 m0) = G34 call n m0 (fun kn kx x0 x1 x2 x3 x4 m => evK call n b34_4 [(1, x0), (5, x1), (12, x2), (13, x3), (14, x4)] m kn kx) (fun x0 m => evK call n b34_5 [(5, x0)] m (fun e m => endK f34 m0 .nrm e m) (endK f34 m0)) y0 y1 m := by kernel_rfl
def S34 (call : CL) (n : Nat) (m0 : Mem) (y0 y1 : AV) : Rho := G34 call n m0 (S34_4 call n) (S34_5 call n m0) y0 y1 { m0 with bad := none }
theorem s34 (call : CL) (n : Nat) (m0 : Mem) (y0 y1 : AV) : bodyK call n f34 [y0, y1] m0 = S34 call n m0 y0 y1 :=
  have h : bodyK call n f34 [y0, y1] m0 = G34 call n m0 (d34_4 call n) (d34_5 call n m0) y0 y1 { m0 with bad := none } := Eq.mp (by kernel_rfl) (g34 call n m0 b34_4 b34_5 y0 y1 { m0 with bad := none })
  by rw [l34_4, l34_5] at h; exact h
def F34 : SF := fun call n vs m0 => unc vs fun x0 vs => unc vs fun x1 vs => unz vs (S34 call n m0 x0 x1)
theorem F34_ok {orc : List AV → Mem → Option (AV × Mem)} : SOk 34 { f34 with orc := orc } F34 := by
  intro call n vs m0 ho r h0
  simp only [F34] at h0
  obtain ⟨y0, v0, rfl, h1⟩ := unc_some h0
  obtain ⟨y1, v1, rfl, h2⟩ := unc_some h1
  obtain ⟨rfl, hz⟩ := unz_some h2
  exact bodyK_le ho rfl r (Eq.mp (by kernel_rfl) ((s34 call n m0 y0 y1).trans hz))

-- resolvent/pairs.Without
def G35 (call : CL) (n : Nat) (m0 : Mem) (y0 y1 : AV) (m : Mem) : Rho :=
  boxK y1 m fun a0 m1 =>
  callK call (.func 32 [] []) false [y0] m1 fun a2 m3 =>
  callK call (.func 70 [] []) false [a2, (.func 71 [] [a0])] m3 fun a4 m5 =>
  retK false false m0 [a4] m5
theorem g35 (call : CL) (n : Nat) (m0 : Mem) (y0 y1 : AV) (m : Mem) : evK call n b35 [(0, y0), (1, y1)] m (fun e m => endK f35 m0 .nrm e m) (endK f35 m0) = G35 call n m0 y0 y1 m := by kernel_rfl
def S35 (call : CL) (n : Nat) (m0 : Mem) (y0 y1 : AV) : Rho := G35 call n m0 y0 y1 { m0 with bad := none }
theorem s35 (call : CL) (n : Nat) (m0 : Mem) (y0 y1 : AV) : bodyK call n f35 [y0, y1] m0 = S35 call n m0 y0 y1 :=
  have h : bodyK call n f35 [y0, y1] m0 = G35 call n m0 y0 y1 { m0 with bad := none } := Eq.mp (by kernel_rfl) (g35 call n m0 y0 y1 { m0 with bad := none })
  h
def F35 : SF := fun call n vs m0 => unc vs fun x0 vs => unc vs fun x1 vs => unz vs (S35 call n m0 x0 x1)
theorem F35_ok {orc : List AV → Mem → Option (AV × Mem)} : SOk 35 { f35 with orc := orc } F35 := by
  intro call n vs m0 ho r h0
  simp only [F35] at h0
  obtain ⟨y0, v0, rfl, h1⟩ := unc_some h0
  obtain ⟨y1, v1, rfl, h2⟩ := unc_some h1
  obtain ⟨rfl, hz⟩ := unz_some h2
  exact bodyK_le ho rfl r (Eq.mp (by kernel_rfl) ((s35 call n m0 y0 y1).trans hz))

-- resolvent/pairs.Related
def G36_2 (call : CL) (n : Nat) (m0 : Mem) (y0 : AV) (m : Mem) : Rho :=
  loadK none y0 m fun a0 m1 =>
  callK call (.func 37 [] []) false [a0] m1 fun a2 m3 =>
  retK false false m0 [a2] m3
theorem g36_2 (call : CL) (n : Nat) (m0 : Mem) (y0 : AV) (m : Mem) : evK call n b36_2 [(5, y0)] m (fun e m => endK f36 m0 .nrm e m) (endK f36 m0) = G36_2 call n m0 y0 m := by kernel_rfl
def k36_2 (call : CL) (n : Nat) (m0 : Mem) : KN := (fun e m => endK f36 m0 .nrm e m)
def x36_2 (call : CL) (n : Nat) (m0 : Mem) : KX := (endK f36 m0)
def S36_2 (call : CL) (n : Nat) (m0 : Mem) (y0 : AV) (m : Mem) : Rho := G36_2 call n m0 y0 m
def d36_2 (call : CL) (n : Nat) (m0 : Mem) (y0 : AV) (m : Mem) : Rho := evK call n b36_2 [(5, y0)] m (k36_2 call n m0) (x36_2 call n m0)
theorem l36_2 {call : CL} {n : Nat} {m0 : Mem} : d36_2 call n m0 = S36_2 call n m0 := by
  funext y0 m
  have h : d36_2 call n m0 y0 m = G36_2 call n m0 y0 m := Eq.mp (by kernel_rfl) (g36_2 call n m0 y0 m)
  exact h
def G36_0 (call : CL) (n : Nat) (kn : KN) (kx : KX) (y0 y1 y2 y3 : AV) (m : Mem) : Rho :=
  newK [(.int .i64 0), (.int .i64 0)] m fun a0 m1 =>
  storeK 2 a0 y0 m1 fun a2 m3 =>
  kn [(5, y2), (6, y3), (7, a0)] m3
theorem g36_0 (call : CL) (n : Nat) (kn : KN) (kx : KX) (y0 y1 y2 y3 : AV) (m : Mem) : evK call n b36_0 [(14, y0), (4, y1), (5, y2), (6, y3)] m kn kx = G36_0 call n kn kx y0 y1 y2 y3 m := by kernel_rfl
def S36_0 (call : CL) (n : Nat) (kn : KN) (kx : KX) (y0 y1 y2 y3 : AV) (m : Mem) : Rho := G36_0 call n kn kx y0 y1 y2 y3 m
def d36_0 (call : CL) (n : Nat) (kn : KN) (kx : KX) (y0 y1 y2 y3 : AV) (m : Mem) : Rho := evK call n b36_0 [(14, y0), (4, y1), (5, y2), (6, y3)] m kn kx
theorem l36_0 {call : CL} {n : Nat} : d36_0 call n = S36_0 call n := by
  funext kn kx y0 y1 y2 y3 m
  have h : d36_0 call n kn kx y0 y1 y2 y3 m = G36_0 call n kn kx y0 y1 y2 y3 m := Eq.mp (by kernel_rfl) (g36_0 call n kn kx y0 y1 y2 y3 m)
  exact h
def G36_1 (call : CL) (n : Nat) (kn : KN) (kx : KX) (y0 y1 y2 : AV) (m : Mem) : Rho :=
  loadK none y1 m fun a0 m1 =>
  vK (aIndexAddrA 2 1 y2 (.int .i64 0)) m1 fun a2 m3 =>
  loadK none a2 m3 fun a4 m5 =>
  callK call (.func 49 [] []) false [a0, a4] m5 fun a6 m7 =>
  gK a6 false (fun k => loadK none y1 m7 fun a8 m9 =>
  k a8 m9) m7 fun a10 m11 =>
  gK a6 false (fun k => vK (aIndexAddrA 2 1 y2 (.int .i64 1)) m11 fun a12 m13 =>
  k a12 m13) m11 fun a14 m15 =>
  gK a6 false (fun k => loadK none a14 m15 fun a16 m17 =>
  k a16 m17) m15 fun a18 m19 =>
  gK a6 false (fun k => callK call (.func 49 [] []) false [a10, a18] m19 fun a20 m21 =>
  k a20 m21) m19 fun a22 m23 =>
  pickK a6 (some (.bool true)) (some a22) fun a24 =>
  condK a24
  (loadK none y0 m23 fun a25 m26 =>
  vK (aIndexAddrA 2 1 y2 (.int .i64 0)) m26 fun a27 m28 =>
  loadK none a27 m28 fun a29 m30 =>
  vK (aIndexAddrA 2 1 y2 (.int .i64 1)) m30 fun a31 m32 =>
  loadK none a31 m32 fun a33 m34 =>
  buildSliceK 1 [(.int .i64 0)] 2 false [(0 * 1, 1, AV.untag a29), (1 * 1, 1, AV.untag a33)] m34 fun a35 m36 =>
  appendK 1 8 1 a25 a35 m36 fun a37 m38 =>
  storeK 1 y0 a37 m38 fun a39 m40 =>
  kn [] m40)
  (kn [(5, y0), (7, y2), (24, a24)] m23)
theorem g36_1 (call : CL) (n : Nat) (kn : KN) (kx : KX) (y0 y1 y2 : AV) (m : Mem) : evK call n b36_1 [(5, y0), (6, y1), (7, y2)] m kn kx = G36_1 call n kn kx y0 y1 y2 m := by kernel_rfl
def S36_1 (call : CL) (n : Nat) (kn : KN) (kx : KX) (y0 y1 y2 : AV) (m : Mem) : Rho := G36_1 call n kn kx y0 y1 y2 m
def d36_1 (call : CL) (n : Nat) (kn : KN) (kx : KX) (y0 y1 y2 : AV) (m : Mem) : Rho := evK call n b36_1 [(5, y0), (6, y1), (7, y2)] m kn kx
theorem l36_1 {call : CL} {n : Nat} : d36_1 call n = S36_1 call n := by
  funext kn kx y0 y1 y2 m
  have h : d36_1 call n kn kx y0 y1 y2 m = G36_1 call n kn kx y0 y1 y2 m := Eq.mp (by kernel_rfl) (g36_1 call n kn kx y0 y1 y2 m)
  exact h
def G36 (call : CL) (n : Nat) (m0 : Mem) (Q36_2 : Y1) (y0 y1 : AV) (m : Mem) : Rho :=
  callK call (.func 37 [] []) false [y1] m fun a0 m1 =>
  newK [(.list .full 0 [])] m1 fun a2 m3 =>
  storeK 1 a2 a0 m3 fun a4 m5 =>
  loadK none a2 m5 fun a6 m7 =>
  callK call (.func 72 [] []) false [a6] m7 fun a8 m9 =>
  newK [(.list .full 0 [])] m9 fun a10 m11 =>
  storeK 1 a10 a8 m11 fun a12 m13 =>
  callK call (.func 61 [] []) false [y0] m13 fun a14 m15 =>
  rangeK call a14 [14] b36_0 b36_1 [(4, (.list .full 1 [])), (5, a2), (6, a10)] m15 (fun e m => keepK e [5] fun vs => unc vs fun x0 vs => unz vs (Q36_2 x0 m)) (blkK 0 (fun e m => keepK e [5] fun vs => unc vs fun x0 vs => unz vs (Q36_2 x0 m)) (endK f36 m0))
theorem g36 (call : CL) (n : Nat) (m0 : Mem) (b36_2 : C) (y0 y1 : AV) (m : Mem) : evK call n (c36 b36_0 b36_1 b36_2) [(0, y0), (1, y1)] m (fun e m => endK f36 m0 .nrm e m) (endK f36 m0) = G36 call n m0 (fun x0 m => evK call n b36_2 [(5, x0)] m (fun e m => endK f36 m0 .nrm e m) (endK f36 m0)) y0 y1 m := by kernel_rfl
def S36 (call : CL) (n : Nat) (m0 : Mem) (y0 y1 : AV) : Rho := G36 call n m0 (S36_2 call n m0) y0 y1 { m0 with bad := none }
theorem s36 (call : CL) (n : Nat) (m0 : Mem) (y0 y1 : AV) : bodyK call n f36 [y0, y1] m0 = S36 call n m0 y0 y1 :=
  have h : bodyK call n f36 [y0, y1] m0 = G36 call n m0 (d36_2 call n m0) y0 y1 { m0 with bad := none } := Eq.mp (by kernel_rfl) (g36 call n m0 b36_2 y0 y1 { m0 with bad := none })
  by rw [l36_2] at h; exact h
def F36 : SF := fun call n vs m0 => unc vs fun x0 vs => unc vs fun x1 vs => unz vs (S36 call n m0 x0 x1)
theorem F36_ok {orc : List AV → Mem → Option (AV × Mem)} : SOk 36 { f36 with orc := orc } F36 := by
  intro call n vs m0 ho r h0
  simp only [F36] at h0
  obtain ⟨y0, v0, rfl, h1⟩ := unc_some h0
  obtain ⟨y1, v1, rfl, h2⟩ := unc_some h1
  obtain ⟨rfl, hz⟩ := unz_some h2
  exact bodyK_le ho rfl r (Eq.mp (by kernel_rfl) ((s36 call n m0 y0 y1).trans hz))

-- resolvent/pairs.Places
def G37 (call : CL) (n : Nat) (m0 : Mem) (y0 : AV) (m : Mem) : Rho :=
  callK call (.func 72 [] []) false [y0] m fun a0 m1 =>
  callK call (.func 73 [] []) false [a0, (.func 74 [] [])] m1 fun a2 m3 =>
  callK call (.func 56 [] []) false [a2] m3 fun a4 m5 =>
  callK call (.func 57 [] []) false [a2] m5 fun a6 m7 =>
  retK false false m0 [a6] m7
theorem g37 (call : CL) (n : Nat) (m0 : Mem) (y0 : AV) (m : Mem) : evK call n b37 [(0, y0)] m (fun e m => endK f37 m0 .nrm e m) (endK f37 m0) = G37 call n m0 y0 m := by kernel_rfl
def S37 (call : CL) (n : Nat) (m0 : Mem) (y0 : AV) : Rho := G37 call n m0 y0 { m0 with bad := none }
theorem s37 (call : CL) (n : Nat) (m0 : Mem) (y0 : AV) : bodyK call n f37 [y0] m0 = S37 call n m0 y0 :=
  have h : bodyK call n f37 [y0] m0 = G37 call n m0 y0 { m0 with bad := none } := Eq.mp (by kernel_rfl) (g37 call n m0 y0 { m0 with bad := none })
  h
def F37 : SF := fun call n vs m0 => unc vs fun x0 vs => unz vs (S37 call n m0 x0)
theorem F37_ok {orc : List AV → Mem → Option (AV × Mem)} : SOk 37 { f37 with orc := orc } F37 := by
  intro call n vs m0 ho r h0
  simp only [F37] at h0
  obtain ⟨y0, v0, rfl, h1⟩ := unc_some h0
  obtain ⟨rfl, hz⟩ := unz_some h1
  exact bodyK_le ho rfl r (Eq.mp (by kernel_rfl) ((s37 call n m0 y0).trans hz))

-- resolvent/resolventref17.Rising
def G38_4 (call : CL) (n : Nat) (m0 : Mem) (m : Mem) : Rho :=
  retK false false m0 [(.bool true)] m
theorem g38_4 (call : CL) (n : Nat) (m0 : Mem) (m : Mem) : evK call n b38_4 [] m (fun e m => endK f38 m0 .nrm e m) (endK f38 m0) = G38_4 call n m0 m := by kernel_rfl
def k38_4 (call : CL) (n : Nat) (m0 : Mem) : KN := (fun e m => endK f38 m0 .nrm e m)
def x38_4 (call : CL) (n : Nat) (m0 : Mem) : KX := (endK f38 m0)
def S38_4 (call : CL) (n : Nat) (m0 : Mem) (m : Mem) : Rho := G38_4 call n m0 m
def d38_4 (call : CL) (n : Nat) (m0 : Mem) (m : Mem) : Rho := evK call n b38_4 [] m (k38_4 call n m0) (x38_4 call n m0)
theorem l38_4 {call : CL} {n : Nat} {m0 : Mem} : d38_4 call n m0 = S38_4 call n m0 := by
  funext m
  have h : d38_4 call n m0 m = G38_4 call n m0 m := Eq.mp (by kernel_rfl) (g38_4 call n m0 m)
  exact h
def G38_1 (call : CL) (n : Nat) (kn : KN) (kx : KX) (y0 y1 : AV) (m : Mem) : Rho :=
  binK .add y1 (.int .i64 1) fun a0 =>
  kn [(0, y0), (3, a0)] m
theorem g38_1 (call : CL) (n : Nat) (kn : KN) (kx : KX) (y0 y1 : AV) (m : Mem) : evK call n b38_1 [(0, y0), (3, y1)] m kn kx = G38_1 call n kn kx y0 y1 m := by kernel_rfl
def k38_1 (call : CL) (n : Nat) (kn : KN) (kx : KX) : KN := kn
def x38_1 (call : CL) (n : Nat) (kn : KN) (kx : KX) : KX := kx
def S38_1 (call : CL) (n : Nat) (kn : KN) (kx : KX) (y0 y1 : AV) (m : Mem) : Rho := G38_1 call n kn kx y0 y1 m
def d38_1 (call : CL) (n : Nat) (kn : KN) (kx : KX) (y0 y1 : AV) (m : Mem) : Rho := evK call n b38_1 [(0, y0), (3, y1)] m (k38_1 call n kn kx) (x38_1 call n kn kx)
theorem l38_1 {call : CL} {n : Nat} {kn : KN} {kx : KX} : d38_1 call n kn kx = S38_1 call n kn kx := by
  funext y0 y1 m
  have h : d38_1 call n kn kx y0 y1 m = G38_1 call n kn kx y0 y1 m := Eq.mp (by kernel_rfl) (g38_1 call n kn kx y0 y1 m)
  exact h
def G38_2 (call : CL) (n : Nat) (kn : KN) (kx : KX) (Q38_1 : Y2) (y0 y1 : AV) (m : Mem) : Rho :=
  vK (aIndexAddr m 1 y0 y1) m fun a0 m1 =>
  loadK none a0 m1 fun a2 m3 =>
  binK .lss a2 (.int .i64 0) fun a4 =>
  gK a4 false (fun k => k y1 m3) m3 fun a5 m6 =>
  gK a4 false (fun k => binK .gtr a5 (.int .i64 0) fun a7 =>
  k a7 m6) m6 fun a8 m9 =>
  gK a4 false (fun k => k a8 m9) m9 fun a10 m11 =>
  gK a10 true (fun k => k y0 m11) m11 fun a12 m13 =>
  gK a10 true (fun k => k y1 m13) m13 fun a14 m15 =>
  gK a10 true (fun k => binK .sub a14 (.int .i64 1) fun a16 =>
  k a16 m15) m15 fun a17 m18 =>
  gK a10 true (fun k => vK (aIndexAddr m18 1 a12 a17) m18 fun a19 m20 =>
  k a19 m20) m18 fun a21 m22 =>
  gK a10 true (fun k => loadK none a21 m22 fun a23 m24 =>
  k a23 m24) m22 fun a25 m26 =>
  gK a10 true (fun k => k y0 m26) m26 fun a27 m28 =>
  gK a10 true (fun k => k y1 m28) m28 fun a29 m30 =>
  gK a10 true (fun k => vK (aIndexAddr m30 1 a27 a29) m30 fun a31 m32 =>
  k a31 m32) m30 fun a33 m34 =>
  gK a10 true (fun k => loadK none a33 m34 fun a35 m36 =>
  k a35 m36) m34 fun a37 m38 =>
  gK a10 true (fun k => binK .geq a25 a37 fun a39 =>
  k a39 m38) m38 fun a40 m41 =>
  gK a4 false (fun k => pickK a10 (some a40) (some (.bool false)) fun a42 =>
  k a42 m41) m41 fun a43 m44 =>
  pickK a4 (some (.bool true)) (some a43) fun a45 =>
  condK a45
  (kx .ret [(2, (.bool false))] m44)
  (Q38_1 y0 y1 m44)
theorem g38_2 (call : CL) (n : Nat) (kn : KN) (kx : KX) (b38_1 : C) (y0 y1 : AV) (m : Mem) : evK call n (c38_2 b38_1) [(0, y0), (3, y1)] m kn kx = G38_2 call n kn kx (fun x0 x1 m => evK call n b38_1 [(0, x0), (3, x1)] m kn kx) y0 y1 m := by kernel_rfl
def k38_2 (call : CL) (n : Nat) (kn : KN) (kx : KX) : KN := kn
def x38_2 (call : CL) (n : Nat) (kn : KN) (kx : KX) : KX := kx
def S38_2 (call : CL) (n : Nat) (kn : KN) (kx : KX) (y0 y1 : AV) (m : Mem) : Rho := G38_2 call n kn kx (S38_1 call n kn kx) y0 y1 m
def d38_2 (call : CL) (n : Nat) (kn : KN) (kx : KX) (y0 y1 : AV) (m : Mem) : Rho := evK call n b38_2 [(0, y0), (3, y1)] m (k38_2 call n kn kx) (x38_2 call n kn kx)
theorem l38_2 {call : CL} {n : Nat} {kn : KN} {kx : KX} : d38_2 call n kn kx = S38_2 call n kn kx := by
  funext y0 y1 m
  have h : d38_2 call n kn kx y0 y1 m = G38_2 call n kn kx (d38_1 call n kn kx) y0 y1 m := Eq.mp (by kernel_rfl) (g38_2 call n kn kx b38_1 y0 y1 m)
  rw [l38_1] at h; exact h
def G38_3 (call : CL) (n : Nat) (kn : KN) (kx : KX) (Q38_2 : Y2) (y0 y1 : AV) (m : Mem) : Rho :=
  vK (aLen m 1 y0) m fun a0 m1 =>
  binK .lss y1 a0 fun a2 =>
  condK a2
  (Q38_2 y0 y1 m1)
  (kx (.ext 0) [(0, y0), (3, y1), (7, a2)] m1)
theorem g38_3 (call : CL) (n : Nat) (kn : KN) (kx : KX) (b38_2 : C) (y0 y1 : AV) (m : Mem) : evK call n (c38_3 b38_2) [(0, y0), (3, y1)] m kn kx = G38_3 call n kn kx (fun x0 x1 m => evK call n b38_2 [(0, x0), (3, x1)] m kn kx) y0 y1 m := by kernel_rfl
def S38_3 (call : CL) (n : Nat) (kn : KN) (kx : KX) (y0 y1 : AV) (m : Mem) : Rho := G38_3 call n kn kx (S38_2 call n kn kx) y0 y1 m
def d38_3 (call : CL) (n : Nat) (kn : KN) (kx : KX) (y0 y1 : AV) (m : Mem) : Rho := evK call n b38_3 [(0, y0), (3, y1)] m kn kx
theorem l38_3 {call : CL} {n : Nat} : d38_3 call n = S38_3 call n := by
  funext kn kx y0 y1 m
  have h : d38_3 call n kn kx y0 y1 m = G38_3 call n kn kx (d38_2 call n kn kx) y0 y1 m := Eq.mp (by kernel_rfl) (g38_3 call n kn kx b38_2 y0 y1 m)
  rw [l38_2] at h; exact h
def G38 (call : CL) (n : Nat) (m0 : Mem) (B38_3 : KN → KX → Y2) (Q38_4 : Y0) (y0 : AV) (m : Mem) : Rho :=
  loopV [0, 3] none (fun vs m kn kx => unc vs fun x0 vs => unc vs fun x1 vs => unz vs (B38_3 kn kx x0 x1 m)) (blkK 0 (fun e m => keepK e [] fun vs => unz vs (Q38_4 m)) (endK f38 m0)) n [y0, (.int .i64 0)] m
theorem g38 (call : CL) (n : Nat) (m0 : Mem) (b38_3 : C) (b38_4 : C) (y0 : AV) (m : Mem) : evK call n (c38 b38_3 b38_4) [(0, y0)] m (fun e m => endK f38 m0 .nrm e m) (endK f38 m0) = G38 call n m0 (fun kn kx x0 x1 m => evK call n b38_3 [(0, x0), (3, x1)] m kn kx) (fun m => evK call n b38_4 [] m (fun e m => endK f38 m0 .nrm e m) (endK f38 m0)) y0 m := by kernel_rfl
def S38 (call : CL) (n : Nat) (m0 : Mem) (y0 : AV) : Rho := G38 call n m0 (S38_3 call n) (S38_4 call n m0) y0 { m0 with bad := none }
theorem s38 (call : CL) (n : Nat) (m0 : Mem) (y0 : AV) : bodyK call n f38 [y0] m0 = S38 call n m0 y0 :=
  have h : bodyK call n f38 [y0] m0 = G38 call n m0 (d38_3 call n) (d38_4 call n m0) y0 { m0 with bad := none } := Eq.mp (by kernel_rfl) (g38 call n m0 b38_3 b38_4 y0 { m0 with bad := none })
  by rw [l38_3, l38_4] at h; exact h
def F38 : SF := fun call n vs m0 => unc vs fun x0 vs => unz vs (S38 call n m0 x0)
theorem F38_ok {orc : List AV → Mem → Option (AV × Mem)} : SOk 38 { f38 with orc := orc } F38 := by
  intro call n vs m0 ho r h0
  simp only [F38] at h0
  obtain ⟨y0, v0, rfl, h1⟩ := unc_some h0
  obtain ⟨rfl, hz⟩ := unz_some h1
  exact bodyK_le ho rfl r (Eq.mp (by kernel_rfl) ((s38 call n m0 y0).trans hz))

-- resolvent/resolventlaw17.ends
def G39_6 (call : CL) (n : Nat) (m0 : Mem) (y0 : AV) (m : Mem) : Rho :=
  retK false false m0 [y0] m
theorem g39_6 (call : CL) (n : Nat) (m0 : Mem) (y0 : AV) (m : Mem) : evK call n b39_6 [(7, y0)] m (fun e m => endK f39 m0 .nrm e m) (endK f39 m0) = G39_6 call n m0 y0 m := by kernel_rfl
def k39_6 (call : CL) (n : Nat) (m0 : Mem) : KN := (fun e m => endK f39 m0 .nrm e m)
def x39_6 (call : CL) (n : Nat) (m0 : Mem) : KX := (endK f39 m0)
def S39_6 (call : CL) (n : Nat) (m0 : Mem) (y0 : AV) (m : Mem) : Rho := G39_6 call n m0 y0 m
def d39_6 (call : CL) (n : Nat) (m0 : Mem) (y0 : AV) (m : Mem) : Rho := evK call n b39_6 [(7, y0)] m (k39_6 call n m0) (x39_6 call n m0)
theorem l39_6 {call : CL} {n : Nat} {m0 : Mem} : d39_6 call n m0 = S39_6 call n m0 := by
  funext y0 m
  have h : d39_6 call n m0 y0 m = G39_6 call n m0 y0 m := Eq.mp (by kernel_rfl) (g39_6 call n m0 y0 m)
  exact h
def G39_4 (call : CL) (n : Nat) (kn : KN) (kx : KX) (y0 y1 y2 : AV) (m : Mem) : Rho :=
  vK (aIndexAddr m 2 y0 y2) m fun a0 m1 =>
  vK (aIndexAddrA 2 1 a0 (.int .i64 0)) m1 fun a2 m3 =>
  loadK none a2 m3 fun a4 m5 =>
  vK (aIndexAddr m5 2 y0 y2) m5 fun a6 m7 =>
  vK (aIndexAddrA 2 1 a6 (.int .i64 1)) m7 fun a8 m9 =>
  loadK none a8 m9 fun a10 m11 =>
  buildSliceK 1 [(.int .i64 0)] 2 false [(0 * 1, 1, AV.untag a4), (1 * 1, 1, AV.untag a10)] m11 fun a12 m13 =>
  appendK 1 8 0 y1 a12 m13 fun a14 m15 =>
  cond (stayK [m, m15] []) (binK .add y2 (.int .i64 1) fun a16 =>
  kn [(1, y0), (7, a14), (9, a16)] m15) none
theorem g39_4 (call : CL) (n : Nat) (kn : KN) (kx : KX) (y0 y1 y2 : AV) (m : Mem) : evK call n b39_4 [(1, y0), (7, y1), (9, y2)] m kn kx = G39_4 call n kn kx y0 y1 y2 m := by kernel_rfl
def k39_4 (call : CL) (n : Nat) (kn : KN) (kx : KX) : KN := kn
def x39_4 (call : CL) (n : Nat) (kn : KN) (kx : KX) : KX := kx
def S39_4 (call : CL) (n : Nat) (kn : KN) (kx : KX) (y0 y1 y2 : AV) (m : Mem) : Rho := G39_4 call n kn kx y0 y1 y2 m
def d39_4 (call : CL) (n : Nat) (kn : KN) (kx : KX) (y0 y1 y2 : AV) (m : Mem) : Rho := evK call n b39_4 [(1, y0), (7, y1), (9, y2)] m (k39_4 call n kn kx) (x39_4 call n kn kx)
theorem l39_4 {call : CL} {n : Nat} {kn : KN} {kx : KX} : d39_4 call n kn kx = S39_4 call n kn kx := by
  funext y0 y1 y2 m
  have h : d39_4 call n kn kx y0 y1 y2 m = G39_4 call n kn kx y0 y1 y2 m := Eq.mp (by kernel_rfl) (g39_4 call n kn kx y0 y1 y2 m)
  exact h
def G39_5 (call : CL) (n : Nat) (kn : KN) (kx : KX) (Q39_4 : Y3) (y0 y1 y2 : AV) (m : Mem) : Rho :=
  vK (aLen m 1 y0) m fun a0 m1 =>
  binK .lss y2 a0 fun a2 =>
  condK a2
  (Q39_4 y0 y1 y2 m1)
  (kx (.ext 2) [(1, y0), (7, y1), (9, y2), (35, a2)] m1)
theorem g39_5 (call : CL) (n : Nat) (kn : KN) (kx : KX) (b39_4 : C) (y0 y1 y2 : AV) (m : Mem) : evK call n (c39_5 b39_4) [(1, y0), (7, y1), (9, y2)] m kn kx = G39_5 call n kn kx (fun x0 x1 x2 m => evK call n b39_4 [(1, x0), (7, x1), (9, x2)] m kn kx) y0 y1 y2 m := by kernel_rfl
def S39_5 (call : CL) (n : Nat) (kn : KN) (kx : KX) (y0 y1 y2 : AV) (m : Mem) : Rho := G39_5 call n kn kx (S39_4 call n kn kx) y0 y1 y2 m
def d39_5 (call : CL) (n : Nat) (kn : KN) (kx : KX) (y0 y1 y2 : AV) (m : Mem) : Rho := evK call n b39_5 [(1, y0), (7, y1), (9, y2)] m kn kx
theorem l39_5 {call : CL} {n : Nat} : d39_5 call n = S39_5 call n := by
  funext kn kx y0 y1 y2 m
  have h : d39_5 call n kn kx y0 y1 y2 m = G39_5 call n kn kx (d39_4 call n kn kx) y0 y1 y2 m := Eq.mp (by kernel_rfl) (g39_5 call n kn kx b39_4 y0 y1 y2 m)
  rw [l39_4] at h; exact h
def G39_7 (call : CL) (n : Nat) (m0 : Mem) (B39_5 : KN → KX → Y3) (Q39_6 : Y1) (y0 y1 : AV) (m : Mem) : Rho :=
  loopV [1, 7, 9] none (fun vs m kn kx => unc vs fun x0 vs => unc vs fun x1 vs => unc vs fun x2 vs => unz vs (B39_5 kn kx x0 x1 x2 m)) (blkK 2 (fun e m => keepK e [7] fun vs => unc vs fun x0 vs => unz vs (Q39_6 x0 m)) (endK f39 m0)) n [y0, y1, (.int .i64 0)] m
theorem g39_7 (call : CL) (n : Nat) (m0 : Mem) (b39_5 : C) (b39_6 : C) (y0 y1 : AV) (m : Mem) : evK call n (c39_7 b39_5 b39_6) [(1, y0), (7, y1)] m (fun e m => endK f39 m0 .nrm e m) (endK f39 m0) = G39_7 call n m0 (fun kn kx x0 x1 x2 m => evK call n b39_5 [(1, x0), (7, x1), (9, x2)] m kn kx) (fun x0 m => evK call n b39_6 [(7, x0)] m (fun e m => endK f39 m0 .nrm e m) (endK f39 m0)) y0 y1 m := by kernel_rfl
def k39_7 (call : CL) (n : Nat) (m0 : Mem) : KN := (fun e m => endK f39 m0 .nrm e m)
def x39_7 (call : CL) (n : Nat) (m0 : Mem) : KX := (endK f39 m0)
def S39_7 (call : CL) (n : Nat) (m0 : Mem) (y0 y1 : AV) (m : Mem) : Rho := G39_7 call n m0 (S39_5 call n) (S39_6 call n m0) y0 y1 m
def d39_7 (call : CL) (n : Nat) (m0 : Mem) (y0 y1 : AV) (m : Mem) : Rho := evK call n b39_7 [(1, y0), (7, y1)] m (k39_7 call n m0) (x39_7 call n m0)
theorem l39_7 {call : CL} {n : Nat} {m0 : Mem} : d39_7 call n m0 = S39_7 call n m0 := by
  funext y0 y1 m
  have h : d39_7 call n m0 y0 y1 m = G39_7 call n m0 (d39_5 call n) (d39_6 call n m0) y0 y1 m := Eq.mp (by kernel_rfl) (g39_7 call n m0 b39_5 b39_6 y0 y1 m)
  rw [l39_5, l39_6] at h; exact h
def G39_1 (call : CL) (n : Nat) (kn : KN) (kx : KX) (y0 y1 y2 y3 : AV) (m : Mem) : Rho :=
  vK (aIndexAddr m 2 y0 y3) m fun a0 m1 =>
  vK (aIndexAddrA 2 1 a0 (.int .i64 0)) m1 fun a2 m3 =>
  loadK none a2 m3 fun a4 m5 =>
  vK (aIndexAddr m5 2 y0 y3) m5 fun a6 m7 =>
  vK (aIndexAddrA 2 1 a6 (.int .i64 1)) m7 fun a8 m9 =>
  loadK none a8 m9 fun a10 m11 =>
  buildSliceK 1 [(.int .i64 0)] 2 false [(0 * 1, 1, AV.untag a4), (1 * 1, 1, AV.untag a10)] m11 fun a12 m13 =>
  appendK 1 8 0 y2 a12 m13 fun a14 m15 =>
  cond (stayK [m, m15] []) (binK .add y3 (.int .i64 1) fun a16 =>
  kn [(0, y0), (1, y1), (7, a14), (8, a16)] m15) none
theorem g39_1 (call : CL) (n : Nat) (kn : KN) (kx : KX) (y0 y1 y2 y3 : AV) (m : Mem) : evK call n b39_1 [(0, y0), (1, y1), (7, y2), (8, y3)] m kn kx = G39_1 call n kn kx y0 y1 y2 y3 m := by kernel_rfl
def k39_1 (call : CL) (n : Nat) (kn : KN) (kx : KX) : KN := kn
def x39_1 (call : CL) (n : Nat) (kn : KN) (kx : KX) : KX := kx
def S39_1 (call : CL) (n : Nat) (kn : KN) (kx : KX) (y0 y1 y2 y3 : AV) (m : Mem) : Rho := G39_1 call n kn kx y0 y1 y2 y3 m
def d39_1 (call : CL) (n : Nat) (kn : KN) (kx : KX) (y0 y1 y2 y3 : AV) (m : Mem) : Rho := evK call n b39_1 [(0, y0), (1, y1), (7, y2), (8, y3)] m (k39_1 call n kn kx) (x39_1 call n kn kx)
theorem l39_1 {call : CL} {n : Nat} {kn : KN} {kx : KX} : d39_1 call n kn kx = S39_1 call n kn kx := by
  funext y0 y1 y2 y3 m
  have h : d39_1 call n kn kx y0 y1 y2 y3 m = G39_1 call n kn kx y0 y1 y2 y3 m := Eq.mp (by kernel_rfl) (g39_1 call n kn kx y0 y1 y2 y3 m)
  exact h
def G39_2 (call : CL) (n : Nat) (kn : KN) (kx : KX) (Q39_1 : Y4) (y0 y1 y2 y3 : AV) (m : Mem) : Rho :=
  vK (aLen m 1 y0) m fun a0 m1 =>
  binK .lss y3 a0 fun a2 =>
  condK a2
  (Q39_1 y0 y1 y2 y3 m1)
  (kx (.ext 0) [(0, y0), (1, y1), (7, y2), (8, y3), (16, a2)] m1)
theorem g39_2 (call : CL) (n : Nat) (kn : KN) (kx : KX) (b39_1 : C) (y0 y1 y2 y3 : AV) (m : Mem) : evK call n (c39_2 b39_1) [(0, y0), (1, y1), (7, y2), (8, y3)] m kn kx = G39_2 call n kn kx (fun x0 x1 x2 x3 m => evK call n b39_1 [(0, x0), (1, x1), (7, x2), (8, x3)] m kn kx) y0 y1 y2 y3 m := by kernel_rfl
def S39_2 (call : CL) (n : Nat) (kn : KN) (kx : KX) (y0 y1 y2 y3 : AV) (m : Mem) : Rho := G39_2 call n kn kx (S39_1 call n kn kx) y0 y1 y2 y3 m
def d39_2 (call : CL) (n : Nat) (kn : KN) (kx : KX) (y0 y1 y2 y3 : AV) (m : Mem) : Rho := evK call n b39_2 [(0, y0), (1, y1), (7, y2), (8, y3)] m kn kx
theorem l39_2 {call : CL} {n : Nat} : d39_2 call n = S39_2 call n := by
  funext kn kx y0 y1 y2 y3 m
  have h : d39_2 call n kn kx y0 y1 y2 y3 m = G39_2 call n kn kx (d39_1 call n kn kx) y0 y1 y2 y3 m := Eq.mp (by kernel_rfl) (g39_2 call n kn kx b39_1 y0 y1 y2 y3 m)
  rw [l39_1] at h; exact h
def G39 (call : CL) (n : Nat) (m0 : Mem) (B39_2 : KN → KX → Y4) (Q39_7 : Y2) (y0 y1 y2 : AV) (m : Mem) : Rho :=
  buildSliceK 1 [(.int .i64 0)] 4 false [(0 * 1, 1, AV.untag (.int .i64 (-1))), (1 * 1, 1, AV.untag (.int .i64 0)), (2 * 1, 1, AV.untag (.int .i64 1)), (3 * 1, 1, AV.untag (.int .i64 7))] m fun a0 m1 =>
  appendK 1 8 0 a0 y2 m1 fun a2 m3 =>
  loopV [0, 1, 7, 8] none (fun vs m kn kx => unc vs fun x0 vs => unc vs fun x1 vs => unc vs fun x2 vs => unc vs fun x3 vs => unz vs (B39_2 kn kx x0 x1 x2 x3 m)) (blkK 0 (fun e m => keepK e [1, 7] fun vs => unc vs fun x0 vs => unc vs fun x1 vs => unz vs (Q39_7 x0 x1 m)) (endK f39 m0)) n [y0, y1, a2, (.int .i64 0)] m3
theorem g39 (call : CL) (n : Nat) (m0 : Mem) (b39_2 : C) (b39_7 : C) (y0 y1 y2 : AV) (m : Mem) : evK call n (c39 b39_2 b39_7) [(0, y0), (1, y1), (2, y2)] m (fun e m => endK f39 m0 .nrm e m) (endK f39 m0) = G39 call n m0 (fun kn kx x0 x1 x2 x3 m => evK call n b39_2 [(0, x0), (1, x1), (7, x2), (8, x3)] m kn kx) (fun x0 x1 m => evK call n b39_7 [(1, x0), (7, x1)] m (fun e m => endK f39 m0 .nrm e m) (endK f39 m0)) y0 y1 y2 m := by kernel_rfl
def S39 (call : CL) (n : Nat) (m0 : Mem) (y0 y1 y2 : AV) : Rho := G39 call n m0 (S39_2 call n) (S39_7 call n m0) y0 y1 y2 { m0 with bad := none }
theorem s39 (call : CL) (n : Nat) (m0 : Mem) (y0 y1 y2 : AV) : bodyK call n f39 [y0, y1, y2] m0 = S39 call n m0 y0 y1 y2 :=
  have h : bodyK call n f39 [y0, y1, y2] m0 = G39 call n m0 (d39_2 call n) (d39_7 call n m0) y0 y1 y2 { m0 with bad := none } := Eq.mp (by kernel_rfl) (g39 call n m0 b39_2 b39_7 y0 y1 y2 { m0 with bad := none })
  by rw [l39_2, l39_7] at h; exact h
def F39 : SF := fun call n vs m0 => unc vs fun x0 vs => unc vs fun x1 vs => unc vs fun x2 vs => unz vs (S39 call n m0 x0 x1 x2)
theorem F39_ok {orc : List AV → Mem → Option (AV × Mem)} : SOk 39 { f39 with orc := orc } F39 := by
  intro call n vs m0 ho r h0
  simp only [F39] at h0
  obtain ⟨y0, v0, rfl, h1⟩ := unc_some h0
  obtain ⟨y1, v1, rfl, h2⟩ := unc_some h1
  obtain ⟨y2, v2, rfl, h3⟩ := unc_some h2
  obtain ⟨rfl, hz⟩ := unz_some h3
  exact bodyK_le ho rfl r (Eq.mp (by kernel_rfl) ((s39 call n m0 y0 y1 y2).trans hz))

-- resolvent/resolventref17.In
def G40_3 (call : CL) (n : Nat) (m0 : Mem) (m : Mem) : Rho :=
  retK false false m0 [(.bool false)] m
theorem g40_3 (call : CL) (n : Nat) (m0 : Mem) (m : Mem) : evK call n b40_3 [] m (fun e m => endK f40 m0 .nrm e m) (endK f40 m0) = G40_3 call n m0 m := by kernel_rfl
def k40_3 (call : CL) (n : Nat) (m0 : Mem) : KN := (fun e m => endK f40 m0 .nrm e m)
def x40_3 (call : CL) (n : Nat) (m0 : Mem) : KX := (endK f40 m0)
def S40_3 (call : CL) (n : Nat) (m0 : Mem) (m : Mem) : Rho := G40_3 call n m0 m
def d40_3 (call : CL) (n : Nat) (m0 : Mem) (m : Mem) : Rho := evK call n b40_3 [] m (k40_3 call n m0) (x40_3 call n m0)
theorem l40_3 {call : CL} {n : Nat} {m0 : Mem} : d40_3 call n m0 = S40_3 call n m0 := by
  funext m
  have h : d40_3 call n m0 m = G40_3 call n m0 m := Eq.mp (by kernel_rfl) (g40_3 call n m0 m)
  exact h
def G40_0 (call : CL) (n : Nat) (kn : KN) (kx : KX) (y0 y1 y2 : AV) (m : Mem) : Rho :=
  binK .add y2 (.int .i64 1) fun a0 =>
  kn [(0, y0), (1, y1), (5, a0)] m
theorem g40_0 (call : CL) (n : Nat) (kn : KN) (kx : KX) (y0 y1 y2 : AV) (m : Mem) : evK call n b40_0 [(0, y0), (1, y1), (5, y2)] m kn kx = G40_0 call n kn kx y0 y1 y2 m := by kernel_rfl
def k40_0 (call : CL) (n : Nat) (kn : KN) (kx : KX) : KN := kn
def x40_0 (call : CL) (n : Nat) (kn : KN) (kx : KX) : KX := kx
def S40_0 (call : CL) (n : Nat) (kn : KN) (kx : KX) (y0 y1 y2 : AV) (m : Mem) : Rho := G40_0 call n kn kx y0 y1 y2 m
def d40_0 (call : CL) (n : Nat) (kn : KN) (kx : KX) (y0 y1 y2 : AV) (m : Mem) : Rho := evK call n b40_0 [(0, y0), (1, y1), (5, y2)] m (k40_0 call n kn kx) (x40_0 call n kn kx)
theorem l40_0 {call : CL} {n : Nat} {kn : KN} {kx : KX} : d40_0 call n kn kx = S40_0 call n kn kx := by
  funext y0 y1 y2 m
  have h : d40_0 call n kn kx y0 y1 y2 m = G40_0 call n kn kx y0 y1 y2 m := Eq.mp (by kernel_rfl) (g40_0 call n kn kx y0 y1 y2 m)
  exact h
def G40_1 (call : CL) (n : Nat) (kn : KN) (kx : KX) (Q40_0 : Y3) (y0 y1 y2 : AV) (m : Mem) : Rho :=
  vK (aIndexAddr m 1 y0 y2) m fun a0 m1 =>
  loadK none a0 m1 fun a2 m3 =>
  binK .eql a2 y1 fun a4 =>
  gK a4 true (fun k => k y1 m3) m3 fun a5 m6 =>
  gK a4 true (fun k => binK .geq a5 (.int .i64 0) fun a7 =>
  k a7 m6) m6 fun a8 m9 =>
  pickK a4 (some a8) (some (.bool false)) fun a10 =>
  condK a10
  (kx .ret [(4, (.bool true))] m9)
  (Q40_0 y0 y1 y2 m9)
theorem g40_1 (call : CL) (n : Nat) (kn : KN) (kx : KX) (b40_0 : C) (y0 y1 y2 : AV) (m : Mem) : evK call n (c40_1 b40_0) [(0, y0), (1, y1), (5, y2)] m kn kx = G40_1 call n kn kx (fun x0 x1 x2 m => evK call n b40_0 [(0, x0), (1, x1), (5, x2)] m kn kx) y0 y1 y2 m := by kernel_rfl
def k40_1 (call : CL) (n : Nat) (kn : KN) (kx : KX) : KN := kn
def x40_1 (call : CL) (n : Nat) (kn : KN) (kx : KX) : KX := kx
def S40_1 (call : CL) (n : Nat) (kn : KN) (kx : KX) (y0 y1 y2 : AV) (m : Mem) : Rho := G40_1 call n kn kx (S40_0 call n kn kx) y0 y1 y2 m
def d40_1 (call : CL) (n : Nat) (kn : KN) (kx : KX) (y0 y1 y2 : AV) (m : Mem) : Rho := evK call n b40_1 [(0, y0), (1, y1), (5, y2)] m (k40_1 call n kn kx) (x40_1 call n kn kx)
theorem l40_1 {call : CL} {n : Nat} {kn : KN} {kx : KX} : d40_1 call n kn kx = S40_1 call n kn kx := by
  funext y0 y1 y2 m
  have h : d40_1 call n kn kx y0 y1 y2 m = G40_1 call n kn kx (d40_0 call n kn kx) y0 y1 y2 m := Eq.mp (by kernel_rfl) (g40_1 call n kn kx b40_0 y0 y1 y2 m)
  rw [l40_0] at h; exact h
def G40_2 (call : CL) (n : Nat) (kn : KN) (kx : KX) (Q40_1 : Y3) (y0 y1 y2 : AV) (m : Mem) : Rho :=
  vK (aLen m 1 y0) m fun a0 m1 =>
  binK .lss y2 a0 fun a2 =>
  condK a2
  (Q40_1 y0 y1 y2 m1)
  (kx (.ext 0) [(0, y0), (1, y1), (5, y2), (9, a2)] m1)
theorem g40_2 (call : CL) (n : Nat) (kn : KN) (kx : KX) (b40_1 : C) (y0 y1 y2 : AV) (m : Mem) : evK call n (c40_2 b40_1) [(0, y0), (1, y1), (5, y2)] m kn kx = G40_2 call n kn kx (fun x0 x1 x2 m => evK call n b40_1 [(0, x0), (1, x1), (5, x2)] m kn kx) y0 y1 y2 m := by kernel_rfl
def S40_2 (call : CL) (n : Nat) (kn : KN) (kx : KX) (y0 y1 y2 : AV) (m : Mem) : Rho := G40_2 call n kn kx (S40_1 call n kn kx) y0 y1 y2 m
def d40_2 (call : CL) (n : Nat) (kn : KN) (kx : KX) (y0 y1 y2 : AV) (m : Mem) : Rho := evK call n b40_2 [(0, y0), (1, y1), (5, y2)] m kn kx
theorem l40_2 {call : CL} {n : Nat} : d40_2 call n = S40_2 call n := by
  funext kn kx y0 y1 y2 m
  have h : d40_2 call n kn kx y0 y1 y2 m = G40_2 call n kn kx (d40_1 call n kn kx) y0 y1 y2 m := Eq.mp (by kernel_rfl) (g40_2 call n kn kx b40_1 y0 y1 y2 m)
  rw [l40_1] at h; exact h
def G40 (call : CL) (n : Nat) (m0 : Mem) (B40_2 : KN → KX → Y3) (Q40_3 : Y0) (y0 y1 : AV) (m : Mem) : Rho :=
  loopV [0, 1, 5] none (fun vs m kn kx => unc vs fun x0 vs => unc vs fun x1 vs => unc vs fun x2 vs => unz vs (B40_2 kn kx x0 x1 x2 m)) (blkK 0 (fun e m => keepK e [] fun vs => unz vs (Q40_3 m)) (endK f40 m0)) n [y0, y1, (.int .i64 0)] m
theorem g40 (call : CL) (n : Nat) (m0 : Mem) (b40_2 : C) (b40_3 : C) (y0 y1 : AV) (m : Mem) : evK call n (c40 b40_2 b40_3) [(0, y0), (1, y1)] m (fun e m => endK f40 m0 .nrm e m) (endK f40 m0) = G40 call n m0 (fun kn kx x0 x1 x2 m => evK call n b40_2 [(0, x0), (1, x1), (5, x2)] m kn kx) (fun m => evK call n b40_3 [] m (fun e m => endK f40 m0 .nrm e m) (endK f40 m0)) y0 y1 m := by kernel_rfl
def S40 (call : CL) (n : Nat) (m0 : Mem) (y0 y1 : AV) : Rho := G40 call n m0 (S40_2 call n) (S40_3 call n m0) y0 y1 { m0 with bad := none }
theorem s40 (call : CL) (n : Nat) (m0 : Mem) (y0 y1 : AV) : bodyK call n f40 [y0, y1] m0 = S40 call n m0 y0 y1 :=
  have h : bodyK call n f40 [y0, y1] m0 = G40 call n m0 (d40_2 call n) (d40_3 call n m0) y0 y1 { m0 with bad := none } := Eq.mp (by kernel_rfl) (g40 call n m0 b40_2 b40_3 y0 y1 { m0 with bad := none })
  by rw [l40_2, l40_3] at h; exact h
def F40 : SF := fun call n vs m0 => unc vs fun x0 vs => unc vs fun x1 vs => unz vs (S40 call n m0 x0 x1)
theorem F40_ok {orc : List AV → Mem → Option (AV × Mem)} : SOk 40 { f40 with orc := orc } F40 := by
  intro call n vs m0 ho r h0
  simp only [F40] at h0
  obtain ⟨y0, v0, rfl, h1⟩ := unc_some h0
  obtain ⟨y1, v1, rfl, h2⟩ := unc_some h1
  obtain ⟨rfl, hz⟩ := unz_some h2
  exact bodyK_le ho rfl r (Eq.mp (by kernel_rfl) ((s40 call n m0 y0 y1).trans hz))

-- resolvent/resolventref17.Related
def G41_3 (call : CL) (n : Nat) (m0 : Mem) (m : Mem) : Rho :=
  retK false false m0 [(.bool false)] m
theorem g41_3 (call : CL) (n : Nat) (m0 : Mem) (m : Mem) : evK call n b41_3 [] m (fun e m => endK f41 m0 .nrm e m) (endK f41 m0) = G41_3 call n m0 m := by kernel_rfl
def k41_3 (call : CL) (n : Nat) (m0 : Mem) : KN := (fun e m => endK f41 m0 .nrm e m)
def x41_3 (call : CL) (n : Nat) (m0 : Mem) : KX := (endK f41 m0)
def S41_3 (call : CL) (n : Nat) (m0 : Mem) (m : Mem) : Rho := G41_3 call n m0 m
def d41_3 (call : CL) (n : Nat) (m0 : Mem) (m : Mem) : Rho := evK call n b41_3 [] m (k41_3 call n m0) (x41_3 call n m0)
theorem l41_3 {call : CL} {n : Nat} {m0 : Mem} : d41_3 call n m0 = S41_3 call n m0 := by
  funext m
  have h : d41_3 call n m0 m = G41_3 call n m0 m := Eq.mp (by kernel_rfl) (g41_3 call n m0 m)
  exact h
def G41_0 (call : CL) (n : Nat) (kn : KN) (kx : KX) (y0 y1 y2 y3 : AV) (m : Mem) : Rho :=
  binK .add y3 (.int .i64 1) fun a0 =>
  kn [(0, y0), (1, y1), (2, y2), (7, a0)] m
theorem g41_0 (call : CL) (n : Nat) (kn : KN) (kx : KX) (y0 y1 y2 y3 : AV) (m : Mem) : evK call n b41_0 [(0, y0), (1, y1), (2, y2), (7, y3)] m kn kx = G41_0 call n kn kx y0 y1 y2 y3 m := by kernel_rfl
def k41_0 (call : CL) (n : Nat) (kn : KN) (kx : KX) : KN := kn
def x41_0 (call : CL) (n : Nat) (kn : KN) (kx : KX) : KX := kx
def S41_0 (call : CL) (n : Nat) (kn : KN) (kx : KX) (y0 y1 y2 y3 : AV) (m : Mem) : Rho := G41_0 call n kn kx y0 y1 y2 y3 m
def d41_0 (call : CL) (n : Nat) (kn : KN) (kx : KX) (y0 y1 y2 y3 : AV) (m : Mem) : Rho := evK call n b41_0 [(0, y0), (1, y1), (2, y2), (7, y3)] m (k41_0 call n kn kx) (x41_0 call n kn kx)
theorem l41_0 {call : CL} {n : Nat} {kn : KN} {kx : KX} : d41_0 call n kn kx = S41_0 call n kn kx := by
  funext y0 y1 y2 y3 m
  have h : d41_0 call n kn kx y0 y1 y2 y3 m = G41_0 call n kn kx y0 y1 y2 y3 m := Eq.mp (by kernel_rfl) (g41_0 call n kn kx y0 y1 y2 y3 m)
  exact h
def G41_1 (call : CL) (n : Nat) (kn : KN) (kx : KX) (Q41_0 : Y4) (y0 y1 y2 y3 : AV) (m : Mem) : Rho :=
  vK (aIndexAddr m 1 y1 y3) m fun a0 m1 =>
  loadK none a0 m1 fun a2 m3 =>
  callK call (.func 31 [] []) false [y0, a2, y2] m3 fun a4 m5 =>
  condK a4
  (kx .ret [(6, (.bool true))] m5)
  (Q41_0 y0 y1 y2 y3 m5)
theorem g41_1 (call : CL) (n : Nat) (kn : KN) (kx : KX) (b41_0 : C) (y0 y1 y2 y3 : AV) (m : Mem) : evK call n (c41_1 b41_0) [(0, y0), (1, y1), (2, y2), (7, y3)] m kn kx = G41_1 call n kn kx (fun x0 x1 x2 x3 m => evK call n b41_0 [(0, x0), (1, x1), (2, x2), (7, x3)] m kn kx) y0 y1 y2 y3 m := by kernel_rfl
def k41_1 (call : CL) (n : Nat) (kn : KN) (kx : KX) : KN := kn
def x41_1 (call : CL) (n : Nat) (kn : KN) (kx : KX) : KX := kx
def S41_1 (call : CL) (n : Nat) (kn : KN) (kx : KX) (y0 y1 y2 y3 : AV) (m : Mem) : Rho := G41_1 call n kn kx (S41_0 call n kn kx) y0 y1 y2 y3 m
def d41_1 (call : CL) (n : Nat) (kn : KN) (kx : KX) (y0 y1 y2 y3 : AV) (m : Mem) : Rho := evK call n b41_1 [(0, y0), (1, y1), (2, y2), (7, y3)] m (k41_1 call n kn kx) (x41_1 call n kn kx)
theorem l41_1 {call : CL} {n : Nat} {kn : KN} {kx : KX} : d41_1 call n kn kx = S41_1 call n kn kx := by
  funext y0 y1 y2 y3 m
  have h : d41_1 call n kn kx y0 y1 y2 y3 m = G41_1 call n kn kx (d41_0 call n kn kx) y0 y1 y2 y3 m := Eq.mp (by kernel_rfl) (g41_1 call n kn kx b41_0 y0 y1 y2 y3 m)
  rw [l41_0] at h; exact h
def G41_2 (call : CL) (n : Nat) (kn : KN) (kx : KX) (Q41_1 : Y4) (y0 y1 y2 y3 : AV) (m : Mem) : Rho :=
  vK (aLen m 1 y1) m fun a0 m1 =>
  binK .lss y3 a0 fun a2 =>
  condK a2
  (Q41_1 y0 y1 y2 y3 m1)
  (kx (.ext 0) [(0, y0), (1, y1), (2, y2), (7, y3), (14, a2)] m1)
theorem g41_2 (call : CL) (n : Nat) (kn : KN) (kx : KX) (b41_1 : C) (y0 y1 y2 y3 : AV) (m : Mem) : evK call n (c41_2 b41_1) [(0, y0), (1, y1), (2, y2), (7, y3)] m kn kx = G41_2 call n kn kx (fun x0 x1 x2 x3 m => evK call n b41_1 [(0, x0), (1, x1), (2, x2), (7, x3)] m kn kx) y0 y1 y2 y3 m := by kernel_rfl
def S41_2 (call : CL) (n : Nat) (kn : KN) (kx : KX) (y0 y1 y2 y3 : AV) (m : Mem) : Rho := G41_2 call n kn kx (S41_1 call n kn kx) y0 y1 y2 y3 m
def d41_2 (call : CL) (n : Nat) (kn : KN) (kx : KX) (y0 y1 y2 y3 : AV) (m : Mem) : Rho := evK call n b41_2 [(0, y0), (1, y1), (2, y2), (7, y3)] m kn kx
theorem l41_2 {call : CL} {n : Nat} : d41_2 call n = S41_2 call n := by
  funext kn kx y0 y1 y2 y3 m
  have h : d41_2 call n kn kx y0 y1 y2 y3 m = G41_2 call n kn kx (d41_1 call n kn kx) y0 y1 y2 y3 m := Eq.mp (by kernel_rfl) (g41_2 call n kn kx b41_1 y0 y1 y2 y3 m)
  rw [l41_1] at h; exact h
def G41_4 (call : CL) (n : Nat) (m0 : Mem) (B41_2 : KN → KX → Y4) (Q41_3 : Y0) (y0 y1 y2 : AV) (m : Mem) : Rho :=
  loopV [0, 1, 2, 7] none (fun vs m kn kx => unc vs fun x0 vs => unc vs fun x1 vs => unc vs fun x2 vs => unc vs fun x3 vs => unz vs (B41_2 kn kx x0 x1 x2 x3 m)) (blkK 0 (fun e m => keepK e [] fun vs => unz vs (Q41_3 m)) (endK f41 m0)) n [y0, y1, y2, (.int .i64 0)] m
theorem g41_4 (call : CL) (n : Nat) (m0 : Mem) (b41_2 : C) (b41_3 : C) (y0 y1 y2 : AV) (m : Mem) : evK call n (c41_4 b41_2 b41_3) [(0, y0), (1, y1), (2, y2)] m (fun e m => endK f41 m0 .nrm e m) (endK f41 m0) = G41_4 call n m0 (fun kn kx x0 x1 x2 x3 m => evK call n b41_2 [(0, x0), (1, x1), (2, x2), (7, x3)] m kn kx) (fun m => evK call n b41_3 [] m (fun e m => endK f41 m0 .nrm e m) (endK f41 m0)) y0 y1 y2 m := by kernel_rfl
def k41_4 (call : CL) (n : Nat) (m0 : Mem) : KN := (fun e m => endK f41 m0 .nrm e m)
def x41_4 (call : CL) (n : Nat) (m0 : Mem) : KX := (endK f41 m0)
def S41_4 (call : CL) (n : Nat) (m0 : Mem) (y0 y1 y2 : AV) (m : Mem) : Rho := G41_4 call n m0 (S41_2 call n) (S41_3 call n m0) y0 y1 y2 m
def d41_4 (call : CL) (n : Nat) (m0 : Mem) (y0 y1 y2 : AV) (m : Mem) : Rho := evK call n b41_4 [(0, y0), (1, y1), (2, y2)] m (k41_4 call n m0) (x41_4 call n m0)
theorem l41_4 {call : CL} {n : Nat} {m0 : Mem} : d41_4 call n m0 = S41_4 call n m0 := by
  funext y0 y1 y2 m
  have h : d41_4 call n m0 y0 y1 y2 m = G41_4 call n m0 (d41_2 call n) (d41_3 call n m0) y0 y1 y2 m := Eq.mp (by kernel_rfl) (g41_4 call n m0 b41_2 b41_3 y0 y1 y2 m)
  rw [l41_2, l41_3] at h; exact h
def G41 (call : CL) (n : Nat) (m0 : Mem) (Q41_4 : Y3) (y0 y1 y2 : AV) (m : Mem) : Rho :=
  callK call (.func 40 [] []) false [y1, y2] m fun a0 m1 =>
  condK a0
  (retK false false m0 [(.bool true)] m1)
  (Q41_4 y0 y1 y2 m1)
theorem g41 (call : CL) (n : Nat) (m0 : Mem) (b41_4 : C) (y0 y1 y2 : AV) (m : Mem) : evK call n (c41 b41_4) [(0, y0), (1, y1), (2, y2)] m (fun e m => endK f41 m0 .nrm e m) (endK f41 m0) = G41 call n m0 (fun x0 x1 x2 m => evK call n b41_4 [(0, x0), (1, x1), (2, x2)] m (fun e m => endK f41 m0 .nrm e m) (endK f41 m0)) y0 y1 y2 m := by kernel_rfl
def S41 (call : CL) (n : Nat) (m0 : Mem) (y0 y1 y2 : AV) : Rho := G41 call n m0 (S41_4 call n m0) y0 y1 y2 { m0 with bad := none }
theorem s41 (call : CL) (n : Nat) (m0 : Mem) (y0 y1 y2 : AV) : bodyK call n f41 [y0, y1, y2] m0 = S41 call n m0 y0 y1 y2 :=
  have h : bodyK call n f41 [y0, y1, y2] m0 = G41 call n m0 (d41_4 call n m0) y0 y1 y2 { m0 with bad := none } := Eq.mp (by kernel_rfl) (g41 call n m0 b41_4 y0 y1 y2 { m0 with bad := none })
  by rw [l41_4] at h; exact h
def F41 : SF := fun call n vs m0 => unc vs fun x0 vs => unc vs fun x1 vs => unc vs fun x2 vs => unz vs (S41 call n m0 x0 x1 x2)
theorem F41_ok {orc : List AV → Mem → Option (AV × Mem)} : SOk 41 { f41 with orc := orc } F41 := by
  intro call n vs m0 ho r h0
  simp only [F41] at h0
  obtain ⟨y0, v0, rfl, h1⟩ := unc_some h0
  obtain ⟨y1, v1, rfl, h2⟩ := unc_some h1
  obtain ⟨y2, v2, rfl, h3⟩ := unc_some h2
  obtain ⟨rfl, hz⟩ := unz_some h3
  exact bodyK_le ho rfl r (Eq.mp (by kernel_rfl) ((s41 call n m0 y0 y1 y2).trans hz))

-- resolvent/pairs.Has
def G42_2 (call : CL) (n : Nat) (m0 : Mem) (y0 : AV) (m : Mem) : Rho :=
  storeK 1 y0 (.bool false) m fun a0 m1 =>
  loadK none y0 m1 fun a2 _ =>
  retK false false m0 [a2] m1
theorem g42_2 (call : CL) (n : Nat) (m0 : Mem) (y0 : AV) (m : Mem) : evK call n b42_2 [(6, y0)] m (fun e m => endK f42 m0 .nrm e m) (endK f42 m0) = G42_2 call n m0 y0 m := by kernel_rfl
def k42_2 (call : CL) (n : Nat) (m0 : Mem) : KN := (fun e m => endK f42 m0 .nrm e m)
def x42_2 (call : CL) (n : Nat) (m0 : Mem) : KX := (endK f42 m0)
def S42_2 (call : CL) (n : Nat) (m0 : Mem) (y0 : AV) (m : Mem) : Rho := G42_2 call n m0 y0 m
def d42_2 (call : CL) (n : Nat) (m0 : Mem) (y0 : AV) (m : Mem) : Rho := evK call n b42_2 [(6, y0)] m (k42_2 call n m0) (x42_2 call n m0)
theorem l42_2 {call : CL} {n : Nat} {m0 : Mem} : d42_2 call n m0 = S42_2 call n m0 := by
  funext y0 m
  have h : d42_2 call n m0 y0 m = G42_2 call n m0 y0 m := Eq.mp (by kernel_rfl) (g42_2 call n m0 y0 m)
  exact h
def G42_0 (call : CL) (n : Nat) (kn : KN) (kx : KX) (y0 y1 y2 : AV) (m : Mem) : Rho :=
  newK [(.int .i64 0), (.int .i64 0)] m fun a0 m1 =>
  storeK 2 a0 y0 m1 fun a2 m3 =>
  kn [(6, y1), (7, y2), (8, a0)] m3
theorem g42_0 (call : CL) (n : Nat) (kn : KN) (kx : KX) (y0 y1 y2 : AV) (m : Mem) : evK call n b42_0 [(18, y0), (6, y1), (7, y2)] m kn kx = G42_0 call n kn kx y0 y1 y2 m := by kernel_rfl
def S42_0 (call : CL) (n : Nat) (kn : KN) (kx : KX) (y0 y1 y2 : AV) (m : Mem) : Rho := G42_0 call n kn kx y0 y1 y2 m
def d42_0 (call : CL) (n : Nat) (kn : KN) (kx : KX) (y0 y1 y2 : AV) (m : Mem) : Rho := evK call n b42_0 [(18, y0), (6, y1), (7, y2)] m kn kx
theorem l42_0 {call : CL} {n : Nat} : d42_0 call n = S42_0 call n := by
  funext kn kx y0 y1 y2 m
  have h : d42_0 call n kn kx y0 y1 y2 m = G42_0 call n kn kx y0 y1 y2 m := Eq.mp (by kernel_rfl) (g42_0 call n kn kx y0 y1 y2 m)
  exact h
def G42_1 (call : CL) (n : Nat) (kn : KN) (kx : KX) (y0 y1 y2 : AV) (m : Mem) : Rho :=
  loadK (some 2) y2 m fun a0 m1 =>
  loadK (some 2) y1 m1 fun a2 m3 =>
  eqvK ⟨[.i, .i], true⟩ false a0 a2 fun a4 =>
  condK a4
  (storeK 1 y0 (.bool true) m3 fun a5 m6 =>
  kx .ret [] m6)
  (kn [(6, y0), (21, a4)] m3)
theorem g42_1 (call : CL) (n : Nat) (kn : KN) (kx : KX) (y0 y1 y2 : AV) (m : Mem) : evK call n b42_1 [(6, y0), (7, y1), (8, y2)] m kn kx = G42_1 call n kn kx y0 y1 y2 m := by kernel_rfl
def S42_1 (call : CL) (n : Nat) (kn : KN) (kx : KX) (y0 y1 y2 : AV) (m : Mem) : Rho := G42_1 call n kn kx y0 y1 y2 m
def d42_1 (call : CL) (n : Nat) (kn : KN) (kx : KX) (y0 y1 y2 : AV) (m : Mem) : Rho := evK call n b42_1 [(6, y0), (7, y1), (8, y2)] m kn kx
theorem l42_1 {call : CL} {n : Nat} : d42_1 call n = S42_1 call n := by
  funext kn kx y0 y1 y2 m
  have h : d42_1 call n kn kx y0 y1 y2 m = G42_1 call n kn kx y0 y1 y2 m := Eq.mp (by kernel_rfl) (g42_1 call n kn kx y0 y1 y2 m)
  exact h
def G42 (call : CL) (n : Nat) (m0 : Mem) (Q42_2 : Y1) (y0 y1 y2 : AV) (m : Mem) : Rho :=
  newK [(.bool false)] m fun a0 m1 =>
  min2K y1 y2 fun a2 =>
  max2K y1 y2 fun a3 =>
  buildK [(.int .i64 0), (.int .i64 0)] [(0, 1, AV.untag1 a2), (1, 1, AV.untag1 a3)] fun a4 =>
  newK [(.int .i64 0), (.int .i64 0)] m1 fun a5 m6 =>
  storeK 2 a5 a4 m6 fun a7 m8 =>
  callK call (.func 61 [] []) false [y0] m8 fun a9 m10 =>
  rangeK call a9 [18] b42_0 b42_1 [(6, a0), (7, a5)] m10 (fun e m => keepK e [6] fun vs => unc vs fun x0 vs => unz vs (Q42_2 x0 m)) (blkK 0 (fun e m => keepK e [6] fun vs => unc vs fun x0 vs => unz vs (Q42_2 x0 m)) (endK f42 m0))
theorem g42 (call : CL) (n : Nat) (m0 : Mem) (b42_2 : C) (y0 y1 y2 : AV) (m : Mem) : evK call n (c42 b42_0 b42_1 b42_2) [(0, y0), (1, y1), (2, y2)] m (fun e m => endK f42 m0 .nrm e m) (endK f42 m0) = G42 call n m0 (fun x0 m => evK call n b42_2 [(6, x0)] m (fun e m => endK f42 m0 .nrm e m) (endK f42 m0)) y0 y1 y2 m := by kernel_rfl
def S42 (call : CL) (n : Nat) (m0 : Mem) (y0 y1 y2 : AV) : Rho := G42 call n m0 (S42_2 call n m0) y0 y1 y2 { m0 with bad := none }
theorem s42 (call : CL) (n : Nat) (m0 : Mem) (y0 y1 y2 : AV) : bodyK call n f42 [y0, y1, y2] m0 = S42 call n m0 y0 y1 y2 :=
  have h : bodyK call n f42 [y0, y1, y2] m0 = G42 call n m0 (d42_2 call n m0) y0 y1 y2 { m0 with bad := none } := Eq.mp (by kernel_rfl) (g42 call n m0 b42_2 y0 y1 y2 { m0 with bad := none })
  by rw [l42_2] at h; exact h
def F42 : SF := fun call n vs m0 => unc vs fun x0 vs => unc vs fun x1 vs => unc vs fun x2 vs => unz vs (S42 call n m0 x0 x1 x2)
theorem F42_ok {orc : List AV → Mem → Option (AV × Mem)} : SOk 42 { f42 with orc := orc } F42 := by
  intro call n vs m0 ho r h0
  simp only [F42] at h0
  obtain ⟨y0, v0, rfl, h1⟩ := unc_some h0
  obtain ⟨y1, v1, rfl, h2⟩ := unc_some h1
  obtain ⟨y2, v2, rfl, h3⟩ := unc_some h2
  obtain ⟨rfl, hz⟩ := unz_some h3
  exact bodyK_le ho rfl r (Eq.mp (by kernel_rfl) ((s42 call n m0 y0 y1 y2).trans hz))

-- resolvent/resolventlaw17.same
def G43_4 (call : CL) (n : Nat) (m0 : Mem) (m : Mem) : Rho :=
  retK false false m0 [(.bool true)] m
theorem g43_4 (call : CL) (n : Nat) (m0 : Mem) (m : Mem) : evK call n b43_4 [] m (fun e m => endK f43 m0 .nrm e m) (endK f43 m0) = G43_4 call n m0 m := by kernel_rfl
def k43_4 (call : CL) (n : Nat) (m0 : Mem) : KN := (fun e m => endK f43 m0 .nrm e m)
def x43_4 (call : CL) (n : Nat) (m0 : Mem) : KX := (endK f43 m0)
def S43_4 (call : CL) (n : Nat) (m0 : Mem) (m : Mem) : Rho := G43_4 call n m0 m
def d43_4 (call : CL) (n : Nat) (m0 : Mem) (m : Mem) : Rho := evK call n b43_4 [] m (k43_4 call n m0) (x43_4 call n m0)
theorem l43_4 {call : CL} {n : Nat} {m0 : Mem} : d43_4 call n m0 = S43_4 call n m0 := by
  funext m
  have h : d43_4 call n m0 m = G43_4 call n m0 m := Eq.mp (by kernel_rfl) (g43_4 call n m0 m)
  exact h
def G43_1 (call : CL) (n : Nat) (kn : KN) (kx : KX) (y0 y1 y2 : AV) (m : Mem) : Rho :=
  binK .add y2 (.int .i64 1) fun a0 =>
  kn [(0, y0), (1, y1), (5, a0)] m
theorem g43_1 (call : CL) (n : Nat) (kn : KN) (kx : KX) (y0 y1 y2 : AV) (m : Mem) : evK call n b43_1 [(0, y0), (1, y1), (5, y2)] m kn kx = G43_1 call n kn kx y0 y1 y2 m := by kernel_rfl
def k43_1 (call : CL) (n : Nat) (kn : KN) (kx : KX) : KN := kn
def x43_1 (call : CL) (n : Nat) (kn : KN) (kx : KX) : KX := kx
def S43_1 (call : CL) (n : Nat) (kn : KN) (kx : KX) (y0 y1 y2 : AV) (m : Mem) : Rho := G43_1 call n kn kx y0 y1 y2 m
def d43_1 (call : CL) (n : Nat) (kn : KN) (kx : KX) (y0 y1 y2 : AV) (m : Mem) : Rho := evK call n b43_1 [(0, y0), (1, y1), (5, y2)] m (k43_1 call n kn kx) (x43_1 call n kn kx)
theorem l43_1 {call : CL} {n : Nat} {kn : KN} {kx : KX} : d43_1 call n kn kx = S43_1 call n kn kx := by
  funext y0 y1 y2 m
  have h : d43_1 call n kn kx y0 y1 y2 m = G43_1 call n kn kx y0 y1 y2 m := Eq.mp (by kernel_rfl) (g43_1 call n kn kx y0 y1 y2 m)
  exact h
def G43_2 (call : CL) (n : Nat) (kn : KN) (kx : KX) (Q43_1 : Y3) (y0 y1 y2 : AV) (m : Mem) : Rho :=
  vK (aIndexAddr m 2 y0 y2) m fun a0 m1 =>
  loadK (some 2) a0 m1 fun a2 m3 =>
  vK (aIndexAddr m3 2 y1 y2) m3 fun a4 m5 =>
  loadK (some 2) a4 m5 fun a6 m7 =>
  eqvK ⟨[.i, .i], true⟩ true a2 a6 fun a8 =>
  condK a8
  (kx .ret [(4, (.bool false))] m7)
  (Q43_1 y0 y1 y2 m7)
theorem g43_2 (call : CL) (n : Nat) (kn : KN) (kx : KX) (b43_1 : C) (y0 y1 y2 : AV) (m : Mem) : evK call n (c43_2 b43_1) [(0, y0), (1, y1), (5, y2)] m kn kx = G43_2 call n kn kx (fun x0 x1 x2 m => evK call n b43_1 [(0, x0), (1, x1), (5, x2)] m kn kx) y0 y1 y2 m := by kernel_rfl
def k43_2 (call : CL) (n : Nat) (kn : KN) (kx : KX) : KN := kn
def x43_2 (call : CL) (n : Nat) (kn : KN) (kx : KX) : KX := kx
def S43_2 (call : CL) (n : Nat) (kn : KN) (kx : KX) (y0 y1 y2 : AV) (m : Mem) : Rho := G43_2 call n kn kx (S43_1 call n kn kx) y0 y1 y2 m
def d43_2 (call : CL) (n : Nat) (kn : KN) (kx : KX) (y0 y1 y2 : AV) (m : Mem) : Rho := evK call n b43_2 [(0, y0), (1, y1), (5, y2)] m (k43_2 call n kn kx) (x43_2 call n kn kx)
theorem l43_2 {call : CL} {n : Nat} {kn : KN} {kx : KX} : d43_2 call n kn kx = S43_2 call n kn kx := by
  funext y0 y1 y2 m
  have h : d43_2 call n kn kx y0 y1 y2 m = G43_2 call n kn kx (d43_1 call n kn kx) y0 y1 y2 m := Eq.mp (by kernel_rfl) (g43_2 call n kn kx b43_1 y0 y1 y2 m)
  rw [l43_1] at h; exact h
def G43_3 (call : CL) (n : Nat) (kn : KN) (kx : KX) (Q43_2 : Y3) (y0 y1 y2 : AV) (m : Mem) : Rho :=
  vK (aLen m 1 y0) m fun a0 m1 =>
  binK .lss y2 a0 fun a2 =>
  condK a2
  (Q43_2 y0 y1 y2 m1)
  (kx (.ext 0) [(0, y0), (1, y1), (5, y2), (14, a2)] m1)
theorem g43_3 (call : CL) (n : Nat) (kn : KN) (kx : KX) (b43_2 : C) (y0 y1 y2 : AV) (m : Mem) : evK call n (c43_3 b43_2) [(0, y0), (1, y1), (5, y2)] m kn kx = G43_3 call n kn kx (fun x0 x1 x2 m => evK call n b43_2 [(0, x0), (1, x1), (5, x2)] m kn kx) y0 y1 y2 m := by kernel_rfl
def S43_3 (call : CL) (n : Nat) (kn : KN) (kx : KX) (y0 y1 y2 : AV) (m : Mem) : Rho := G43_3 call n kn kx (S43_2 call n kn kx) y0 y1 y2 m
def d43_3 (call : CL) (n : Nat) (kn : KN) (kx : KX) (y0 y1 y2 : AV) (m : Mem) : Rho := evK call n b43_3 [(0, y0), (1, y1), (5, y2)] m kn kx
theorem l43_3 {call : CL} {n : Nat} : d43_3 call n = S43_3 call n := by
  funext kn kx y0 y1 y2 m
  have h : d43_3 call n kn kx y0 y1 y2 m = G43_3 call n kn kx (d43_2 call n kn kx) y0 y1 y2 m := Eq.mp (by kernel_rfl) (g43_3 call n kn kx b43_2 y0 y1 y2 m)
  rw [l43_2] at h; exact h
def G43_5 (call : CL) (n : Nat) (m0 : Mem) (B43_3 : KN → KX → Y3) (Q43_4 : Y0) (y0 y1 : AV) (m : Mem) : Rho :=
  loopV [0, 1, 5] none (fun vs m kn kx => unc vs fun x0 vs => unc vs fun x1 vs => unc vs fun x2 vs => unz vs (B43_3 kn kx x0 x1 x2 m)) (blkK 0 (fun e m => keepK e [] fun vs => unz vs (Q43_4 m)) (endK f43 m0)) n [y0, y1, (.int .i64 0)] m
theorem g43_5 (call : CL) (n : Nat) (m0 : Mem) (b43_3 : C) (b43_4 : C) (y0 y1 : AV) (m : Mem) : evK call n (c43_5 b43_3 b43_4) [(0, y0), (1, y1)] m (fun e m => endK f43 m0 .nrm e m) (endK f43 m0) = G43_5 call n m0 (fun kn kx x0 x1 x2 m => evK call n b43_3 [(0, x0), (1, x1), (5, x2)] m kn kx) (fun m => evK call n b43_4 [] m (fun e m => endK f43 m0 .nrm e m) (endK f43 m0)) y0 y1 m := by kernel_rfl
def k43_5 (call : CL) (n : Nat) (m0 : Mem) : KN := (fun e m => endK f43 m0 .nrm e m)
def x43_5 (call : CL) (n : Nat) (m0 : Mem) : KX := (endK f43 m0)
def S43_5 (call : CL) (n : Nat) (m0 : Mem) (y0 y1 : AV) (m : Mem) : Rho := G43_5 call n m0 (S43_3 call n) (S43_4 call n m0) y0 y1 m
def d43_5 (call : CL) (n : Nat) (m0 : Mem) (y0 y1 : AV) (m : Mem) : Rho := evK call n b43_5 [(0, y0), (1, y1)] m (k43_5 call n m0) (x43_5 call n m0)
theorem l43_5 {call : CL} {n : Nat} {m0 : Mem} : d43_5 call n m0 = S43_5 call n m0 := by
  funext y0 y1 m
  have h : d43_5 call n m0 y0 y1 m = G43_5 call n m0 (d43_3 call n) (d43_4 call n m0) y0 y1 m := Eq.mp (by kernel_rfl) (g43_5 call n m0 b43_3 b43_4 y0 y1 m)
  rw [l43_3, l43_4] at h; exact h
def G43 (call : CL) (n : Nat) (m0 : Mem) (Q43_5 : Y2) (y0 y1 : AV) (m : Mem) : Rho :=
  vK (aLen m 1 y0) m fun a0 m1 =>
  vK (aLen m1 1 y1) m1 fun a2 m3 =>
  binK .neq a0 a2 fun a4 =>
  condK a4
  (retK false false m0 [(.bool false)] m3)
  (Q43_5 y0 y1 m3)
theorem g43 (call : CL) (n : Nat) (m0 : Mem) (b43_5 : C) (y0 y1 : AV) (m : Mem) : evK call n (c43 b43_5) [(0, y0), (1, y1)] m (fun e m => endK f43 m0 .nrm e m) (endK f43 m0) = G43 call n m0 (fun x0 x1 m => evK call n b43_5 [(0, x0), (1, x1)] m (fun e m => endK f43 m0 .nrm e m) (endK f43 m0)) y0 y1 m := by kernel_rfl
def S43 (call : CL) (n : Nat) (m0 : Mem) (y0 y1 : AV) : Rho := G43 call n m0 (S43_5 call n m0) y0 y1 { m0 with bad := none }
theorem s43 (call : CL) (n : Nat) (m0 : Mem) (y0 y1 : AV) : bodyK call n f43 [y0, y1] m0 = S43 call n m0 y0 y1 :=
  have h : bodyK call n f43 [y0, y1] m0 = G43 call n m0 (d43_5 call n m0) y0 y1 { m0 with bad := none } := Eq.mp (by kernel_rfl) (g43 call n m0 b43_5 y0 y1 { m0 with bad := none })
  by rw [l43_5] at h; exact h
def F43 : SF := fun call n vs m0 => unc vs fun x0 vs => unc vs fun x1 vs => unz vs (S43 call n m0 x0 x1)
theorem F43_ok {orc : List AV → Mem → Option (AV × Mem)} : SOk 43 { f43 with orc := orc } F43 := by
  intro call n vs m0 ho r h0
  simp only [F43] at h0
  obtain ⟨y0, v0, rfl, h1⟩ := unc_some h0
  obtain ⟨y1, v1, rfl, h2⟩ := unc_some h1
  obtain ⟨rfl, hz⟩ := unz_some h2
  exact bodyK_le ho rfl r (Eq.mp (by kernel_rfl) ((s43 call n m0 y0 y1).trans hz))

-- slices.Contains[[]int,int]
def G49 (call : CL) (n : Nat) (m0 : Mem) (y0 y1 : AV) (m : Mem) : Rho :=
  callK call (.func 79 [] []) false [y0, y1] m fun a0 m1 =>
  binK .geq a0 (.int .i64 0) fun a2 =>
  retK false false m0 [a2] m1
theorem g49 (call : CL) (n : Nat) (m0 : Mem) (y0 y1 : AV) (m : Mem) : evK call n b49 [(0, y0), (1, y1)] m (fun e m => endK f49 m0 .nrm e m) (endK f49 m0) = G49 call n m0 y0 y1 m := by kernel_rfl
def S49 (call : CL) (n : Nat) (m0 : Mem) (y0 y1 : AV) : Rho := G49 call n m0 y0 y1 { m0 with bad := none }
theorem s49 (call : CL) (n : Nat) (m0 : Mem) (y0 y1 : AV) : bodyK call n f49 [y0, y1] m0 = S49 call n m0 y0 y1 :=
  have h : bodyK call n f49 [y0, y1] m0 = G49 call n m0 y0 y1 { m0 with bad := none } := Eq.mp (by kernel_rfl) (g49 call n m0 y0 y1 { m0 with bad := none })
  h
def F49 : SF := fun call n vs m0 => unc vs fun x0 vs => unc vs fun x1 vs => unz vs (S49 call n m0 x0 x1)
theorem F49_ok {orc : List AV → Mem → Option (AV × Mem)} : SOk 49 { f49 with orc := orc } F49 := by
  intro call n vs m0 ho r h0
  simp only [F49] at h0
  obtain ⟨y0, v0, rfl, h1⟩ := unc_some h0
  obtain ⟨y1, v1, rfl, h2⟩ := unc_some h1
  obtain ⟨rfl, hz⟩ := unz_some h2
  exact bodyK_le ho rfl r (Eq.mp (by kernel_rfl) ((s49 call n m0 y0 y1).trans hz))

-- resolvent/pairs.good
def G61 (call : CL) (n : Nat) (m0 : Mem) (y0 : AV) (m : Mem) : Rho :=
  boxK y0 m fun a0 m1 =>
  retK false false m0 [(.func 85 [] [a0])] m1
theorem g61 (call : CL) (n : Nat) (m0 : Mem) (y0 : AV) (m : Mem) : evK call n b61 [(0, y0)] m (fun e m => endK f61 m0 .nrm e m) (endK f61 m0) = G61 call n m0 y0 m := by kernel_rfl
def S61 (call : CL) (n : Nat) (m0 : Mem) (y0 : AV) : Rho := G61 call n m0 y0 { m0 with bad := none }
theorem s61 (call : CL) (n : Nat) (m0 : Mem) (y0 : AV) : bodyK call n f61 [y0] m0 = S61 call n m0 y0 :=
  have h : bodyK call n f61 [y0] m0 = G61 call n m0 y0 { m0 with bad := none } := Eq.mp (by kernel_rfl) (g61 call n m0 y0 { m0 with bad := none })
  h
def F61 : SF := fun call n vs m0 => unc vs fun x0 vs => unz vs (S61 call n m0 x0)
theorem F61_ok {orc : List AV → Mem → Option (AV × Mem)} : SOk 61 { f61 with orc := orc } F61 := by
  intro call n vs m0 ho r h0
  simp only [F61] at h0
  obtain ⟨y0, v0, rfl, h1⟩ := unc_some h0
  obtain ⟨rfl, hz⟩ := unz_some h1
  exact bodyK_le ho rfl r (Eq.mp (by kernel_rfl) ((s61 call n m0 y0).trans hz))

-- slices.Collect[[2]int]
def G62 (call : CL) (n : Nat) (m0 : Mem) (y0 : AV) (m : Mem) : Rho :=
  callK call (.func 86 [] []) true [(.list .full 0 []), y0] m fun a0 m1 =>
  retK false false m0 [a0] m1
theorem g62 (call : CL) (n : Nat) (m0 : Mem) (y0 : AV) (m : Mem) : evK call n b62 [(0, y0)] m (fun e m => endK f62 m0 .nrm e m) (endK f62 m0) = G62 call n m0 y0 m := by kernel_rfl
def S62 (call : CL) (n : Nat) (m0 : Mem) (y0 : AV) : Rho := G62 call n m0 y0 { m0 with bad := none }
theorem s62 (call : CL) (n : Nat) (m0 : Mem) (y0 : AV) : bodyK call n f62 [y0] m0 = S62 call n m0 y0 :=
  have h : bodyK call n f62 [y0] m0 = G62 call n m0 y0 { m0 with bad := none } := Eq.mp (by kernel_rfl) (g62 call n m0 y0 { m0 with bad := none })
  h
def F62 : SF := fun call n vs m0 => unc vs fun x0 vs => unz vs (S62 call n m0 x0)
theorem F62_ok {orc : List AV → Mem → Option (AV × Mem)} : SOk 62 { f62 with orc := orc } F62 := by
  intro call n vs m0 ho r h0
  simp only [F62] at h0
  obtain ⟨y0, v0, rfl, h1⟩ := unc_some h0
  obtain ⟨rfl, hz⟩ := unz_some h1
  exact bodyK_le ho rfl r (Eq.mp (by kernel_rfl) ((s62 call n m0 y0).trans hz))

-- resolvent/pairs.Of$1
def G64 (call : CL) (n : Nat) (m0 : Mem) (y0 y1 : AV) (m : Mem) : Rho :=
  boxK y0 m fun a0 m1 =>
  boxK y1 m1 fun a2 m3 =>
  vK (aIndexAddrA 2 1 a0 (.int .i64 0)) m3 fun a4 m5 =>
  loadK none a4 m5 fun a6 m7 =>
  vK (aIndexAddrA 2 1 a2 (.int .i64 0)) m7 fun a8 m9 =>
  loadK none a8 m9 fun a10 m11 =>
  callK call (.func 66 [] []) false [a6, a10] m11 fun a12 m13 =>
  vK (aIndexAddrA 2 1 a0 (.int .i64 1)) m13 fun a14 m15 =>
  loadK none a14 m15 fun a16 m17 =>
  vK (aIndexAddrA 2 1 a2 (.int .i64 1)) m17 fun a18 m19 =>
  loadK none a18 m19 fun a20 m21 =>
  callK call (.func 66 [] []) false [a16, a20] m21 fun a22 m23 =>
  buildSliceK 1 [(.int .i64 0)] 2 false [(0 * 1, 1, AV.untag a12), (1 * 1, 1, AV.untag a22)] m23 fun a24 m25 =>
  callK call (.func 65 [] []) false [a24] m25 fun a26 m27 =>
  cond (stayK [m3, m13, m23, m27] [(fun m => m.load none a14, a16, 0, 2, true), (fun m => m.load none a18, a20, 0, 2, true)]) (retK false false m0 [a26] m27) none
theorem g64 (call : CL) (n : Nat) (m0 : Mem) (y0 y1 : AV) (m : Mem) : evK call n b64 [(0, y0), (1, y1)] m (fun e m => endK f64 m0 .nrm e m) (endK f64 m0) = G64 call n m0 y0 y1 m := by kernel_rfl
def S64 (call : CL) (n : Nat) (m0 : Mem) (y0 y1 : AV) : Rho := G64 call n m0 y0 y1 { m0 with bad := none }
theorem s64 (call : CL) (n : Nat) (m0 : Mem) (y0 y1 : AV) : bodyK call n f64 [y0, y1] m0 = S64 call n m0 y0 y1 :=
  have h : bodyK call n f64 [y0, y1] m0 = G64 call n m0 y0 y1 { m0 with bad := none } := Eq.mp (by kernel_rfl) (g64 call n m0 y0 y1 { m0 with bad := none })
  h
def F64 : SF := fun call n vs m0 => unc vs fun x0 vs => unc vs fun x1 vs => unz vs (S64 call n m0 x0 x1)
theorem F64_ok {orc : List AV → Mem → Option (AV × Mem)} : SOk 64 { f64 with orc := orc } F64 := by
  intro call n vs m0 ho r h0
  simp only [F64] at h0
  obtain ⟨y0, v0, rfl, h1⟩ := unc_some h0
  obtain ⟨y1, v1, rfl, h2⟩ := unc_some h1
  obtain ⟨rfl, hz⟩ := unz_some h2
  exact bodyK_le ho rfl r (Eq.mp (by kernel_rfl) ((s64 call n m0 y0 y1).trans hz))

-- cmp.Or[int]
def G65_3 (call : CL) (n : Nat) (m0 : Mem) (y0 : AV) (m : Mem) : Rho :=
  retK false false m0 [y0] m
theorem g65_3 (call : CL) (n : Nat) (m0 : Mem) (y0 : AV) (m : Mem) : evK call n b65_3 [(3, y0)] m (fun e m => endK f65 m0 .nrm e m) (endK f65 m0) = G65_3 call n m0 y0 m := by kernel_rfl
def k65_3 (call : CL) (n : Nat) (m0 : Mem) : KN := (fun e m => endK f65 m0 .nrm e m)
def x65_3 (call : CL) (n : Nat) (m0 : Mem) : KX := (endK f65 m0)
def S65_3 (call : CL) (n : Nat) (m0 : Mem) (y0 : AV) (m : Mem) : Rho := G65_3 call n m0 y0 m
def d65_3 (call : CL) (n : Nat) (m0 : Mem) (y0 : AV) (m : Mem) : Rho := evK call n b65_3 [(3, y0)] m (k65_3 call n m0) (x65_3 call n m0)
theorem l65_3 {call : CL} {n : Nat} {m0 : Mem} : d65_3 call n m0 = S65_3 call n m0 := by
  funext y0 m
  have h : d65_3 call n m0 y0 m = G65_3 call n m0 y0 m := Eq.mp (by kernel_rfl) (g65_3 call n m0 y0 m)
  exact h
def G65_0 (call : CL) (n : Nat) (kn : KN) (kx : KX) (y0 y1 y2 y3 : AV) (m : Mem) : Rho :=
  binK .add y3 (.int .i64 1) fun a0 =>
  kn [(3, y0), (6, y1), (7, y2), (8, a0)] m
theorem g65_0 (call : CL) (n : Nat) (kn : KN) (kx : KX) (y0 y1 y2 y3 : AV) (m : Mem) : evK call n b65_0 [(3, y0), (6, y1), (7, y2), (8, y3)] m kn kx = G65_0 call n kn kx y0 y1 y2 y3 m := by kernel_rfl
def k65_0 (call : CL) (n : Nat) (kn : KN) (kx : KX) : KN := kn
def x65_0 (call : CL) (n : Nat) (kn : KN) (kx : KX) : KX := kx
def S65_0 (call : CL) (n : Nat) (kn : KN) (kx : KX) (y0 y1 y2 y3 : AV) (m : Mem) : Rho := G65_0 call n kn kx y0 y1 y2 y3 m
def d65_0 (call : CL) (n : Nat) (kn : KN) (kx : KX) (y0 y1 y2 y3 : AV) (m : Mem) : Rho := evK call n b65_0 [(3, y0), (6, y1), (7, y2), (8, y3)] m (k65_0 call n kn kx) (x65_0 call n kn kx)
theorem l65_0 {call : CL} {n : Nat} {kn : KN} {kx : KX} : d65_0 call n kn kx = S65_0 call n kn kx := by
  funext y0 y1 y2 y3 m
  have h : d65_0 call n kn kx y0 y1 y2 y3 m = G65_0 call n kn kx y0 y1 y2 y3 m := Eq.mp (by kernel_rfl) (g65_0 call n kn kx y0 y1 y2 y3 m)
  exact h
def G65_1 (call : CL) (n : Nat) (kn : KN) (kx : KX) (Q65_0 : Y4) (y0 y1 y2 y3 : AV) (m : Mem) : Rho :=
  vK (aIndexAddr m 1 y1 y3) m fun a0 m1 =>
  loadK none a0 m1 fun a2 m3 =>
  binK .neq a2 y0 fun a4 =>
  condK a4
  (kx .ret [(2, a2)] m3)
  (Q65_0 y0 y1 y2 y3 m3)
theorem g65_1 (call : CL) (n : Nat) (kn : KN) (kx : KX) (b65_0 : C) (y0 y1 y2 y3 : AV) (m : Mem) : evK call n (c65_1 b65_0) [(3, y0), (6, y1), (7, y2), (8, y3)] m kn kx = G65_1 call n kn kx (fun x0 x1 x2 x3 m => evK call n b65_0 [(3, x0), (6, x1), (7, x2), (8, x3)] m kn kx) y0 y1 y2 y3 m := by kernel_rfl
def k65_1 (call : CL) (n : Nat) (kn : KN) (kx : KX) : KN := kn
def x65_1 (call : CL) (n : Nat) (kn : KN) (kx : KX) : KX := kx
def S65_1 (call : CL) (n : Nat) (kn : KN) (kx : KX) (y0 y1 y2 y3 : AV) (m : Mem) : Rho := G65_1 call n kn kx (S65_0 call n kn kx) y0 y1 y2 y3 m
def d65_1 (call : CL) (n : Nat) (kn : KN) (kx : KX) (y0 y1 y2 y3 : AV) (m : Mem) : Rho := evK call n b65_1 [(3, y0), (6, y1), (7, y2), (8, y3)] m (k65_1 call n kn kx) (x65_1 call n kn kx)
theorem l65_1 {call : CL} {n : Nat} {kn : KN} {kx : KX} : d65_1 call n kn kx = S65_1 call n kn kx := by
  funext y0 y1 y2 y3 m
  have h : d65_1 call n kn kx y0 y1 y2 y3 m = G65_1 call n kn kx (d65_0 call n kn kx) y0 y1 y2 y3 m := Eq.mp (by kernel_rfl) (g65_1 call n kn kx b65_0 y0 y1 y2 y3 m)
  rw [l65_0] at h; exact h
def G65_2 (call : CL) (n : Nat) (kn : KN) (kx : KX) (Q65_1 : Y4) (y0 y1 y2 y3 : AV) (m : Mem) : Rho :=
  binK .lss y3 y2 fun a0 =>
  condK a0
  (Q65_1 y0 y1 y2 y3 m)
  (kx (.ext 0) [(3, y0), (6, y1), (7, y2), (8, y3), (9, a0)] m)
theorem g65_2 (call : CL) (n : Nat) (kn : KN) (kx : KX) (b65_1 : C) (y0 y1 y2 y3 : AV) (m : Mem) : evK call n (c65_2 b65_1) [(3, y0), (6, y1), (7, y2), (8, y3)] m kn kx = G65_2 call n kn kx (fun x0 x1 x2 x3 m => evK call n b65_1 [(3, x0), (6, x1), (7, x2), (8, x3)] m kn kx) y0 y1 y2 y3 m := by kernel_rfl
def S65_2 (call : CL) (n : Nat) (kn : KN) (kx : KX) (y0 y1 y2 y3 : AV) (m : Mem) : Rho := G65_2 call n kn kx (S65_1 call n kn kx) y0 y1 y2 y3 m
def d65_2 (call : CL) (n : Nat) (kn : KN) (kx : KX) (y0 y1 y2 y3 : AV) (m : Mem) : Rho := evK call n b65_2 [(3, y0), (6, y1), (7, y2), (8, y3)] m kn kx
theorem l65_2 {call : CL} {n : Nat} : d65_2 call n = S65_2 call n := by
  funext kn kx y0 y1 y2 y3 m
  have h : d65_2 call n kn kx y0 y1 y2 y3 m = G65_2 call n kn kx (d65_1 call n kn kx) y0 y1 y2 y3 m := Eq.mp (by kernel_rfl) (g65_2 call n kn kx b65_1 y0 y1 y2 y3 m)
  rw [l65_1] at h; exact h
def G65 (call : CL) (n : Nat) (m0 : Mem) (B65_2 : KN → KX → Y4) (Q65_3 : Y1) (y0 : AV) (m : Mem) : Rho :=
  vK (aLen m 1 y0) m fun a0 m1 =>
  loopV [3, 6, 7, 8] none (fun vs m kn kx => unc vs fun x0 vs => unc vs fun x1 vs => unc vs fun x2 vs => unc vs fun x3 vs => unz vs (B65_2 kn kx x0 x1 x2 x3 m)) (blkK 0 (fun e m => keepK e [3] fun vs => unc vs fun x0 vs => unz vs (Q65_3 x0 m)) (endK f65 m0)) n [(.int .i64 0), y0, a0, (.int .i64 0)] m1
theorem g65 (call : CL) (n : Nat) (m0 : Mem) (b65_2 : C) (b65_3 : C) (y0 : AV) (m : Mem) : evK call n (c65 b65_2 b65_3) [(0, y0)] m (fun e m => endK f65 m0 .nrm e m) (endK f65 m0) = G65 call n m0 (fun kn kx x0 x1 x2 x3 m => evK call n b65_2 [(3, x0), (6, x1), (7, x2), (8, x3)] m kn kx) (fun x0 m => evK call n b65_3 [(3, x0)] m (fun e m => endK f65 m0 .nrm e m) (endK f65 m0)) y0 m := by kernel_rfl
def S65 (call : CL) (n : Nat) (m0 : Mem) (y0 : AV) : Rho := G65 call n m0 (S65_2 call n) (S65_3 call n m0) y0 { m0 with bad := none }
theorem s65 (call : CL) (n : Nat) (m0 : Mem) (y0 : AV) : bodyK call n f65 [y0] m0 = S65 call n m0 y0 :=
  have h : bodyK call n f65 [y0] m0 = G65 call n m0 (d65_2 call n) (d65_3 call n m0) y0 { m0 with bad := none } := Eq.mp (by kernel_rfl) (g65 call n m0 b65_2 b65_3 y0 { m0 with bad := none })
  by rw [l65_2, l65_3] at h; exact h
def F65 : SF := fun call n vs m0 => unc vs fun x0 vs => unz vs (S65 call n m0 x0)
theorem F65_ok {orc : List AV → Mem → Option (AV × Mem)} : SOk 65 { f65 with orc := orc } F65 := by
  intro call n vs m0 ho r h0
  simp only [F65] at h0
  obtain ⟨y0, v0, rfl, h1⟩ := unc_some h0
  obtain ⟨rfl, hz⟩ := unz_some h1
  exact bodyK_le ho rfl r (Eq.mp (by kernel_rfl) ((s65 call n m0 y0).trans hz))

-- cmp.Compare[int]
def G66_1 (call : CL) (n : Nat) (m0 : Mem) (m : Mem) : Rho :=
  retK false false m0 [(.int .i64 0)] m
theorem g66_1 (call : CL) (n : Nat) (m0 : Mem) (m : Mem) : evK call n b66_1 [] m (fun e m => endK f66 m0 .nrm e m) (endK f66 m0) = G66_1 call n m0 m := by kernel_rfl
def k66_1 (call : CL) (n : Nat) (m0 : Mem) : KN := (fun e m => endK f66 m0 .nrm e m)
def x66_1 (call : CL) (n : Nat) (m0 : Mem) : KX := (endK f66 m0)
def S66_1 (call : CL) (n : Nat) (m0 : Mem) (m : Mem) : Rho := G66_1 call n m0 m
def d66_1 (call : CL) (n : Nat) (m0 : Mem) (m : Mem) : Rho := evK call n b66_1 [] m (k66_1 call n m0) (x66_1 call n m0)
theorem l66_1 {call : CL} {n : Nat} {m0 : Mem} : d66_1 call n m0 = S66_1 call n m0 := by
  funext m
  have h : d66_1 call n m0 m = G66_1 call n m0 m := Eq.mp (by kernel_rfl) (g66_1 call n m0 m)
  exact h
def G66_2 (call : CL) (n : Nat) (m0 : Mem) (Q66_1 : Y0) (y0 y1 : AV) (m : Mem) : Rho :=
  binK .gtr y0 y1 fun a0 =>
  condK a0
  (retK false false m0 [(.int .i64 1)] m)
  (Q66_1 m)
theorem g66_2 (call : CL) (n : Nat) (m0 : Mem) (b66_1 : C) (y0 y1 : AV) (m : Mem) : evK call n (c66_2 b66_1) [(0, y0), (1, y1)] m (fun e m => endK f66 m0 .nrm e m) (endK f66 m0) = G66_2 call n m0 (fun m => evK call n b66_1 [] m (fun e m => endK f66 m0 .nrm e m) (endK f66 m0)) y0 y1 m := by kernel_rfl
def k66_2 (call : CL) (n : Nat) (m0 : Mem) : KN := (fun e m => endK f66 m0 .nrm e m)
def x66_2 (call : CL) (n : Nat) (m0 : Mem) : KX := (endK f66 m0)
def S66_2 (call : CL) (n : Nat) (m0 : Mem) (y0 y1 : AV) (m : Mem) : Rho := G66_2 call n m0 (S66_1 call n m0) y0 y1 m
def d66_2 (call : CL) (n : Nat) (m0 : Mem) (y0 y1 : AV) (m : Mem) : Rho := evK call n b66_2 [(0, y0), (1, y1)] m (k66_2 call n m0) (x66_2 call n m0)
theorem l66_2 {call : CL} {n : Nat} {m0 : Mem} : d66_2 call n m0 = S66_2 call n m0 := by
  funext y0 y1 m
  have h : d66_2 call n m0 y0 y1 m = G66_2 call n m0 (d66_1 call n m0) y0 y1 m := Eq.mp (by kernel_rfl) (g66_2 call n m0 b66_1 y0 y1 m)
  rw [l66_1] at h; exact h
def G66_3 (call : CL) (n : Nat) (m0 : Mem) (Q66_2 : Y2) (y0 y1 : AV) (m : Mem) : Rho :=
  binK .lss y0 y1 fun a0 =>
  condK a0
  (retK false false m0 [(.int .i64 (-1))] m)
  (Q66_2 y0 y1 m)
theorem g66_3 (call : CL) (n : Nat) (m0 : Mem) (b66_2 : C) (y0 y1 : AV) (m : Mem) : evK call n (c66_3 b66_2) [(0, y0), (1, y1)] m (fun e m => endK f66 m0 .nrm e m) (endK f66 m0) = G66_3 call n m0 (fun x0 x1 m => evK call n b66_2 [(0, x0), (1, x1)] m (fun e m => endK f66 m0 .nrm e m) (endK f66 m0)) y0 y1 m := by kernel_rfl
def k66_3 (call : CL) (n : Nat) (m0 : Mem) : KN := (fun e m => endK f66 m0 .nrm e m)
def x66_3 (call : CL) (n : Nat) (m0 : Mem) : KX := (endK f66 m0)
def S66_3 (call : CL) (n : Nat) (m0 : Mem) (y0 y1 : AV) (m : Mem) : Rho := G66_3 call n m0 (S66_2 call n m0) y0 y1 m
def d66_3 (call : CL) (n : Nat) (m0 : Mem) (y0 y1 : AV) (m : Mem) : Rho := evK call n b66_3 [(0, y0), (1, y1)] m (k66_3 call n m0) (x66_3 call n m0)
theorem l66_3 {call : CL} {n : Nat} {m0 : Mem} : d66_3 call n m0 = S66_3 call n m0 := by
  funext y0 y1 m
  have h : d66_3 call n m0 y0 y1 m = G66_3 call n m0 (d66_2 call n m0) y0 y1 m := Eq.mp (by kernel_rfl) (g66_3 call n m0 b66_2 y0 y1 m)
  rw [l66_2] at h; exact h
def G66_4 (call : CL) (n : Nat) (m0 : Mem) (Q66_3 : Y2) (y0 y1 y2 : AV) (m : Mem) : Rho :=
  condK y2
  (retK false false m0 [(.int .i64 1)] m)
  (Q66_3 y0 y1 m)
theorem g66_4 (call : CL) (n : Nat) (m0 : Mem) (b66_3 : C) (y0 y1 y2 : AV) (m : Mem) : evK call n (c66_4 b66_3) [(0, y0), (1, y1), (6, y2)] m (fun e m => endK f66 m0 .nrm e m) (endK f66 m0) = G66_4 call n m0 (fun x0 x1 m => evK call n b66_3 [(0, x0), (1, x1)] m (fun e m => endK f66 m0 .nrm e m) (endK f66 m0)) y0 y1 y2 m := by kernel_rfl
def k66_4 (call : CL) (n : Nat) (m0 : Mem) : KN := (fun e m => endK f66 m0 .nrm e m)
def x66_4 (call : CL) (n : Nat) (m0 : Mem) : KX := (endK f66 m0)
def S66_4 (call : CL) (n : Nat) (m0 : Mem) (y0 y1 y2 : AV) (m : Mem) : Rho := G66_4 call n m0 (S66_3 call n m0) y0 y1 y2 m
def d66_4 (call : CL) (n : Nat) (m0 : Mem) (y0 y1 y2 : AV) (m : Mem) : Rho := evK call n b66_4 [(0, y0), (1, y1), (6, y2)] m (k66_4 call n m0) (x66_4 call n m0)
theorem l66_4 {call : CL} {n : Nat} {m0 : Mem} : d66_4 call n m0 = S66_4 call n m0 := by
  funext y0 y1 y2 m
  have h : d66_4 call n m0 y0 y1 y2 m = G66_4 call n m0 (d66_3 call n m0) y0 y1 y2 m := Eq.mp (by kernel_rfl) (g66_4 call n m0 b66_3 y0 y1 y2 m)
  rw [l66_3] at h; exact h
def G66_0 (call : CL) (n : Nat) (m0 : Mem) (m : Mem) : Rho :=
  retK false false m0 [(.int .i64 (-1))] m
theorem g66_0 (call : CL) (n : Nat) (m0 : Mem) (b66_4 : C) (k66_4 : KN) (x66_4 : KX) (m : Mem) : evK call n b66_0 [] m (jn call n [0, 1, 6] b66_4 k66_4 x66_4) (endK f66 m0) = G66_0 call n m0 m := by kernel_rfl
def k66_0 (call : CL) (n : Nat) (m0 : Mem) : KN := (jn call n [0, 1, 6] b66_4 (k66_4 call n m0) (x66_4 call n m0))
def x66_0 (call : CL) (n : Nat) (m0 : Mem) : KX := (endK f66 m0)
def S66_0 (call : CL) (n : Nat) (m0 : Mem) (m : Mem) : Rho := G66_0 call n m0 m
def d66_0 (call : CL) (n : Nat) (m0 : Mem) (m : Mem) : Rho := evK call n b66_0 [] m (k66_0 call n m0) (x66_0 call n m0)
theorem l66_0 {call : CL} {n : Nat} {m0 : Mem} : d66_0 call n m0 = S66_0 call n m0 := by
  funext m
  have h : d66_0 call n m0 m = G66_0 call n m0 m := Eq.mp (by kernel_rfl) (g66_0 call n m0 b66_4 (k66_4 call n m0) (x66_4 call n m0) m)
  exact h
def G66 (call : CL) (n : Nat) (m0 : Mem) (Q66_0 : Y0) (Q66_4 : Y3) (y0 y1 : AV) (m : Mem) : Rho :=
  callK call (.func 88 [] []) false [y0] m fun a0 m1 =>
  callK call (.func 88 [] []) false [y1] m1 fun a2 m3 =>
  condK a0
  (condK a2
  (retK false false m0 [(.int .i64 0)] m3)
  (Q66_0 m3))
  (Q66_4 y0 y1 a2 m3)
theorem g66 (call : CL) (n : Nat) (m0 : Mem) (b66_0 : C) (b66_4 : C) (y0 y1 : AV) (m : Mem) : evK call n (c66 b66_0 b66_4) [(0, y0), (1, y1)] m (fun e m => endK f66 m0 .nrm e m) (endK f66 m0) = G66 call n m0 (fun m => evK call n b66_0 [] m (jn call n [0, 1, 6] b66_4 (fun e m => endK f66 m0 .nrm e m) (endK f66 m0)) (endK f66 m0)) (fun x0 x1 x2 m => evK call n b66_4 [(0, x0), (1, x1), (6, x2)] m (fun e m => endK f66 m0 .nrm e m) (endK f66 m0)) y0 y1 m := by kernel_rfl
def S66 (call : CL) (n : Nat) (m0 : Mem) (y0 y1 : AV) : Rho := G66 call n m0 (S66_0 call n m0) (S66_4 call n m0) y0 y1 { m0 with bad := none }
theorem s66 (call : CL) (n : Nat) (m0 : Mem) (y0 y1 : AV) : bodyK call n f66 [y0, y1] m0 = S66 call n m0 y0 y1 :=
  have h : bodyK call n f66 [y0, y1] m0 = G66 call n m0 (d66_0 call n m0) (d66_4 call n m0) y0 y1 { m0 with bad := none } := Eq.mp (by kernel_rfl) (g66 call n m0 b66_0 b66_4 y0 y1 { m0 with bad := none })
  by rw [l66_0, l66_4] at h; exact h
def F66 : SF := fun call n vs m0 => unc vs fun x0 vs => unc vs fun x1 vs => unz vs (S66 call n m0 x0 x1)
theorem F66_ok {orc : List AV → Mem → Option (AV × Mem)} : SOk 66 { f66 with orc := orc } F66 := by
  intro call n vs m0 ho r h0
  simp only [F66] at h0
  obtain ⟨y0, v0, rfl, h1⟩ := unc_some h0
  obtain ⟨y1, v1, rfl, h2⟩ := unc_some h1
  obtain ⟨rfl, hz⟩ := unz_some h2
  exact bodyK_le ho rfl r (Eq.mp (by kernel_rfl) ((s66 call n m0 y0 y1).trans hz))

-- slices.Compact[[][2]int,[2]int]
def G67_9 (call : CL) (n : Nat) (m0 : Mem) (y0 : AV) (m : Mem) : Rho :=
  retK false false m0 [y0] m
theorem g67_9 (call : CL) (n : Nat) (m0 : Mem) (y0 : AV) (m : Mem) : evK call n b67_9 [(0, y0)] m (fun e m => endK f67 m0 .nrm e m) (endK f67 m0) = G67_9 call n m0 y0 m := by kernel_rfl
def k67_9 (call : CL) (n : Nat) (m0 : Mem) : KN := (fun e m => endK f67 m0 .nrm e m)
def x67_9 (call : CL) (n : Nat) (m0 : Mem) : KX := (endK f67 m0)
def S67_9 (call : CL) (n : Nat) (m0 : Mem) (y0 : AV) (m : Mem) : Rho := G67_9 call n m0 y0 m
def d67_9 (call : CL) (n : Nat) (m0 : Mem) (y0 : AV) (m : Mem) : Rho := evK call n b67_9 [(0, y0)] m (k67_9 call n m0) (x67_9 call n m0)
theorem l67_9 {call : CL} {n : Nat} {m0 : Mem} : d67_9 call n m0 = S67_9 call n m0 := by
  funext y0 m
  have h : d67_9 call n m0 y0 m = G67_9 call n m0 y0 m := Eq.mp (by kernel_rfl) (g67_9 call n m0 y0 m)
  exact h
def G67_6 (call : CL) (n : Nat) (kn : KN) (kx : KX) (y0 y1 : AV) (m : Mem) : Rho :=
  binK .add y1 (.int .i64 1) fun a0 =>
  kn [(0, y0), (3, a0)] m
theorem g67_6 (call : CL) (n : Nat) (kn : KN) (kx : KX) (y0 y1 : AV) (m : Mem) : evK call n b67_6 [(0, y0), (3, y1)] m kn kx = G67_6 call n kn kx y0 y1 m := by kernel_rfl
def k67_6 (call : CL) (n : Nat) (kn : KN) (kx : KX) : KN := kn
def x67_6 (call : CL) (n : Nat) (kn : KN) (kx : KX) : KX := kx
def S67_6 (call : CL) (n : Nat) (kn : KN) (kx : KX) (y0 y1 : AV) (m : Mem) : Rho := G67_6 call n kn kx y0 y1 m
def d67_6 (call : CL) (n : Nat) (kn : KN) (kx : KX) (y0 y1 : AV) (m : Mem) : Rho := evK call n b67_6 [(0, y0), (3, y1)] m (k67_6 call n kn kx) (x67_6 call n kn kx)
theorem l67_6 {call : CL} {n : Nat} {kn : KN} {kx : KX} : d67_6 call n kn kx = S67_6 call n kn kx := by
  funext y0 y1 m
  have h : d67_6 call n kn kx y0 y1 m = G67_6 call n kn kx y0 y1 m := Eq.mp (by kernel_rfl) (g67_6 call n kn kx y0 y1 m)
  exact h
def G67_5 (call : CL) (n : Nat) (kn : KN) (kx : KX) (y0 y1 : AV) (m : Mem) : Rho :=
  vK (aSlice 2 y0 (some y1) none) m fun a0 m1 =>
  clearK 2 [(.int .i64 0), (.int .i64 0)] a0 m1 fun a2 m3 =>
  vK (aSlice 2 y0 none (some y1)) m3 fun a4 m5 =>
  kx .ret [(2, a4)] m5
theorem g67_5 (call : CL) (n : Nat) (kn : KN) (kx : KX) (b67_6 : C) (k67_6 : KN) (x67_6 : KX) (y0 y1 : AV) (m : Mem) : evK call n b67_5 [(0, y0), (3, y1)] m (jn call n [0, 3] b67_6 k67_6 x67_6) (blkK 1 (jn call n [0, 3] b67_6 k67_6 x67_6) kx) = G67_5 call n kn kx y0 y1 m := by kernel_rfl
def k67_5 (call : CL) (n : Nat) (kn : KN) (kx : KX) : KN := (jn call n [0, 3] b67_6 (k67_6 call n kn kx) (x67_6 call n kn kx))
def x67_5 (call : CL) (n : Nat) (kn : KN) (kx : KX) : KX := (blkK 1 (jn call n [0, 3] b67_6 (k67_6 call n kn kx) (x67_6 call n kn kx)) kx)
def S67_5 (call : CL) (n : Nat) (kn : KN) (kx : KX) (y0 y1 : AV) (m : Mem) : Rho := G67_5 call n kn kx y0 y1 m
def d67_5 (call : CL) (n : Nat) (kn : KN) (kx : KX) (y0 y1 : AV) (m : Mem) : Rho := evK call n b67_5 [(0, y0), (3, y1)] m (k67_5 call n kn kx) (x67_5 call n kn kx)
theorem l67_5 {call : CL} {n : Nat} {kn : KN} {kx : KX} : d67_5 call n kn kx = S67_5 call n kn kx := by
  funext y0 y1 m
  have h : d67_5 call n kn kx y0 y1 m = G67_5 call n kn kx y0 y1 m := Eq.mp (by kernel_rfl) (g67_5 call n kn kx b67_6 (k67_6 call n kn kx) (x67_6 call n kn kx) y0 y1 m)
  exact h
def G67_2 (call : CL) (n : Nat) (kn : KN) (kx : KX) (y0 y1 y2 y3 : AV) (m : Mem) : Rho :=
  binK .add y3 (.int .i64 1) fun a0 =>
  kn [(0, y0), (3, y1), (4, y2), (5, a0)] m
theorem g67_2 (call : CL) (n : Nat) (kn : KN) (kx : KX) (y0 y1 y2 y3 : AV) (m : Mem) : evK call n b67_2 [(0, y0), (3, y1), (4, y2), (5, y3)] m kn kx = G67_2 call n kn kx y0 y1 y2 y3 m := by kernel_rfl
def k67_2 (call : CL) (n : Nat) (kn : KN) (kx : KX) : KN := kn
def x67_2 (call : CL) (n : Nat) (kn : KN) (kx : KX) : KX := kx
def S67_2 (call : CL) (n : Nat) (kn : KN) (kx : KX) (y0 y1 y2 y3 : AV) (m : Mem) : Rho := G67_2 call n kn kx y0 y1 y2 y3 m
def d67_2 (call : CL) (n : Nat) (kn : KN) (kx : KX) (y0 y1 y2 y3 : AV) (m : Mem) : Rho := evK call n b67_2 [(0, y0), (3, y1), (4, y2), (5, y3)] m (k67_2 call n kn kx) (x67_2 call n kn kx)
theorem l67_2 {call : CL} {n : Nat} {kn : KN} {kx : KX} : d67_2 call n kn kx = S67_2 call n kn kx := by
  funext y0 y1 y2 y3 m
  have h : d67_2 call n kn kx y0 y1 y2 y3 m = G67_2 call n kn kx y0 y1 y2 y3 m := Eq.mp (by kernel_rfl) (g67_2 call n kn kx y0 y1 y2 y3 m)
  exact h
def G67_3 (call : CL) (n : Nat) (kn : KN) (kx : KX) (Q67_2 : Y4) (y0 y1 y2 y3 : AV) (m : Mem) : Rho :=
  vK (aIndexAddr m 2 y2 y3) m fun a0 m1 =>
  loadK (some 2) a0 m1 fun a2 m3 =>
  binK .sub y3 (.int .i64 1) fun a4 =>
  vK (aIndexAddr m3 2 y2 a4) m3 fun a5 m6 =>
  loadK (some 2) a5 m6 fun a7 m8 =>
  eqvK ⟨[.i, .i], true⟩ true a2 a7 fun a9 =>
  condK a9
  (vK (aIndexAddr m8 2 y2 y3) m8 fun a10 m11 =>
  loadK (some 2) a10 m11 fun a12 m13 =>
  vK (aIndexAddr m13 2 y0 y1) m13 fun a14 m15 =>
  storeK 2 a14 a12 m15 fun a16 m17 =>
  binK .add y1 (.int .i64 1) fun a18 =>
  Q67_2 y0 a18 y2 y3 m17)
  (Q67_2 y0 y1 y2 y3 m8)
theorem g67_3 (call : CL) (n : Nat) (kn : KN) (kx : KX) (b67_2 : C) (y0 y1 y2 y3 : AV) (m : Mem) : evK call n (c67_3 b67_2) [(0, y0), (3, y1), (4, y2), (5, y3)] m kn kx = G67_3 call n kn kx (fun x0 x1 x2 x3 m => evK call n b67_2 [(0, x0), (3, x1), (4, x2), (5, x3)] m kn kx) y0 y1 y2 y3 m := by kernel_rfl
def k67_3 (call : CL) (n : Nat) (kn : KN) (kx : KX) : KN := kn
def x67_3 (call : CL) (n : Nat) (kn : KN) (kx : KX) : KX := kx
def S67_3 (call : CL) (n : Nat) (kn : KN) (kx : KX) (y0 y1 y2 y3 : AV) (m : Mem) : Rho := G67_3 call n kn kx (S67_2 call n kn kx) y0 y1 y2 y3 m
def d67_3 (call : CL) (n : Nat) (kn : KN) (kx : KX) (y0 y1 y2 y3 : AV) (m : Mem) : Rho := evK call n b67_3 [(0, y0), (3, y1), (4, y2), (5, y3)] m (k67_3 call n kn kx) (x67_3 call n kn kx)
theorem l67_3 {call : CL} {n : Nat} {kn : KN} {kx : KX} : d67_3 call n kn kx = S67_3 call n kn kx := by
  funext y0 y1 y2 y3 m
  have h : d67_3 call n kn kx y0 y1 y2 y3 m = G67_3 call n kn kx (d67_2 call n kn kx) y0 y1 y2 y3 m := Eq.mp (by kernel_rfl) (g67_3 call n kn kx b67_2 y0 y1 y2 y3 m)
  rw [l67_2] at h; exact h
def G67_4 (call : CL) (n : Nat) (kn : KN) (kx : KX) (Q67_3 : Y4) (y0 y1 y2 y3 : AV) (m : Mem) : Rho :=
  vK (aLen m 1 y2) m fun a0 m1 =>
  binK .lss y3 a0 fun a2 =>
  condK a2
  (Q67_3 y0 y1 y2 y3 m1)
  (kx (.ext 2) [(0, y0), (3, y1), (4, y2), (5, y3), (32, a2)] m1)
theorem g67_4 (call : CL) (n : Nat) (kn : KN) (kx : KX) (b67_3 : C) (y0 y1 y2 y3 : AV) (m : Mem) : evK call n (c67_4 b67_3) [(0, y0), (3, y1), (4, y2), (5, y3)] m kn kx = G67_4 call n kn kx (fun x0 x1 x2 x3 m => evK call n b67_3 [(0, x0), (3, x1), (4, x2), (5, x3)] m kn kx) y0 y1 y2 y3 m := by kernel_rfl
def S67_4 (call : CL) (n : Nat) (kn : KN) (kx : KX) (y0 y1 y2 y3 : AV) (m : Mem) : Rho := G67_4 call n kn kx (S67_3 call n kn kx) y0 y1 y2 y3 m
def d67_4 (call : CL) (n : Nat) (kn : KN) (kx : KX) (y0 y1 y2 y3 : AV) (m : Mem) : Rho := evK call n b67_4 [(0, y0), (3, y1), (4, y2), (5, y3)] m kn kx
theorem l67_4 {call : CL} {n : Nat} : d67_4 call n = S67_4 call n := by
  funext kn kx y0 y1 y2 y3 m
  have h : d67_4 call n kn kx y0 y1 y2 y3 m = G67_4 call n kn kx (d67_3 call n kn kx) y0 y1 y2 y3 m := Eq.mp (by kernel_rfl) (g67_4 call n kn kx b67_3 y0 y1 y2 y3 m)
  rw [l67_3] at h; exact h
def G67_7 (call : CL) (n : Nat) (kn : KN) (kx : KX) (B67_4 : KN → KX → Y4) (Q67_5 : Y2) (Q67_6 : Y2) (y0 y1 : AV) (m : Mem) : Rho :=
  vK (aIndexAddr m 2 y0 y1) m fun a0 m1 =>
  loadK (some 2) a0 m1 fun a2 m3 =>
  binK .sub y1 (.int .i64 1) fun a4 =>
  vK (aIndexAddr m3 2 y0 a4) m3 fun a5 m6 =>
  loadK (some 2) a5 m6 fun a7 m8 =>
  eqvK ⟨[.i, .i], true⟩ false a2 a7 fun a9 =>
  condK a9
  (vK (aSlice 2 y0 (some y1) none) m8 fun a10 m11 =>
  loopV [0, 3, 4, 5] none (fun vs m kn kx => unc vs fun x0 vs => unc vs fun x1 vs => unc vs fun x2 vs => unc vs fun x3 vs => unz vs (B67_4 kn kx x0 x1 x2 x3 m)) (blkK 2 (fun e m => keepK e [0, 3] fun vs => unc vs fun x0 vs => unc vs fun x1 vs => unz vs (Q67_5 x0 x1 m)) (blkK 1 (fun e m => keepK e [0, 3] fun vs => unc vs fun x0 vs => unc vs fun x1 vs => unz vs (Q67_6 x0 x1 m)) kx)) n [y0, y1, a10, (.int .i64 1)] m11)
  (Q67_6 y0 y1 m8)
theorem g67_7 (call : CL) (n : Nat) (kn : KN) (kx : KX) (b67_4 : C) (b67_5 : C) (b67_6 : C) (y0 y1 : AV) (m : Mem) : evK call n (c67_7 b67_4 b67_5 b67_6) [(0, y0), (3, y1)] m kn kx = G67_7 call n kn kx (fun kn kx x0 x1 x2 x3 m => evK call n b67_4 [(0, x0), (3, x1), (4, x2), (5, x3)] m kn kx) (fun x0 x1 m => evK call n b67_5 [(0, x0), (3, x1)] m (jn call n [0, 3] b67_6 kn kx) (blkK 1 (jn call n [0, 3] b67_6 kn kx) kx)) (fun x0 x1 m => evK call n b67_6 [(0, x0), (3, x1)] m kn kx) y0 y1 m := by kernel_rfl
def k67_7 (call : CL) (n : Nat) (kn : KN) (kx : KX) : KN := kn
def x67_7 (call : CL) (n : Nat) (kn : KN) (kx : KX) : KX := kx
def S67_7 (call : CL) (n : Nat) (kn : KN) (kx : KX) (y0 y1 : AV) (m : Mem) : Rho := G67_7 call n kn kx (S67_4 call n) (S67_5 call n kn kx) (S67_6 call n kn kx) y0 y1 m
def d67_7 (call : CL) (n : Nat) (kn : KN) (kx : KX) (y0 y1 : AV) (m : Mem) : Rho := evK call n b67_7 [(0, y0), (3, y1)] m (k67_7 call n kn kx) (x67_7 call n kn kx)
theorem l67_7 {call : CL} {n : Nat} {kn : KN} {kx : KX} : d67_7 call n kn kx = S67_7 call n kn kx := by
  funext y0 y1 m
  have h : d67_7 call n kn kx y0 y1 m = G67_7 call n kn kx (d67_4 call n) (d67_5 call n kn kx) (d67_6 call n kn kx) y0 y1 m := Eq.mp (by kernel_rfl) (g67_7 call n kn kx b67_4 b67_5 b67_6 y0 y1 m)
  rw [l67_4, l67_5, l67_6] at h; exact h
def G67_8 (call : CL) (n : Nat) (kn : KN) (kx : KX) (Q67_7 : Y2) (y0 y1 : AV) (m : Mem) : Rho :=
  vK (aLen m 1 y0) m fun a0 m1 =>
  binK .lss y1 a0 fun a2 =>
  condK a2
  (Q67_7 y0 y1 m1)
  (kx (.ext 0) [(0, y0), (3, y1), (13, a2)] m1)
theorem g67_8 (call : CL) (n : Nat) (kn : KN) (kx : KX) (b67_7 : C) (y0 y1 : AV) (m : Mem) : evK call n (c67_8 b67_7) [(0, y0), (3, y1)] m kn kx = G67_8 call n kn kx (fun x0 x1 m => evK call n b67_7 [(0, x0), (3, x1)] m kn kx) y0 y1 m := by kernel_rfl
def S67_8 (call : CL) (n : Nat) (kn : KN) (kx : KX) (y0 y1 : AV) (m : Mem) : Rho := G67_8 call n kn kx (S67_7 call n kn kx) y0 y1 m
def d67_8 (call : CL) (n : Nat) (kn : KN) (kx : KX) (y0 y1 : AV) (m : Mem) : Rho := evK call n b67_8 [(0, y0), (3, y1)] m kn kx
theorem l67_8 {call : CL} {n : Nat} : d67_8 call n = S67_8 call n := by
  funext kn kx y0 y1 m
  have h : d67_8 call n kn kx y0 y1 m = G67_8 call n kn kx (d67_7 call n kn kx) y0 y1 m := Eq.mp (by kernel_rfl) (g67_8 call n kn kx b67_7 y0 y1 m)
  rw [l67_7] at h; exact h
def G67_10 (call : CL) (n : Nat) (m0 : Mem) (B67_8 : KN → KX → Y2) (Q67_9 : Y1) (y0 : AV) (m : Mem) : Rho :=
  loopV [0, 3] none (fun vs m kn kx => unc vs fun x0 vs => unc vs fun x1 vs => unz vs (B67_8 kn kx x0 x1 m)) (blkK 0 (fun e m => keepK e [0] fun vs => unc vs fun x0 vs => unz vs (Q67_9 x0 m)) (endK f67 m0)) n [y0, (.int .i64 1)] m
theorem g67_10 (call : CL) (n : Nat) (m0 : Mem) (b67_8 : C) (b67_9 : C) (y0 : AV) (m : Mem) : evK call n (c67_10 b67_8 b67_9) [(0, y0)] m (fun e m => endK f67 m0 .nrm e m) (endK f67 m0) = G67_10 call n m0 (fun kn kx x0 x1 m => evK call n b67_8 [(0, x0), (3, x1)] m kn kx) (fun x0 m => evK call n b67_9 [(0, x0)] m (fun e m => endK f67 m0 .nrm e m) (endK f67 m0)) y0 m := by kernel_rfl
def k67_10 (call : CL) (n : Nat) (m0 : Mem) : KN := (fun e m => endK f67 m0 .nrm e m)
def x67_10 (call : CL) (n : Nat) (m0 : Mem) : KX := (endK f67 m0)
def S67_10 (call : CL) (n : Nat) (m0 : Mem) (y0 : AV) (m : Mem) : Rho := G67_10 call n m0 (S67_8 call n) (S67_9 call n m0) y0 m
def d67_10 (call : CL) (n : Nat) (m0 : Mem) (y0 : AV) (m : Mem) : Rho := evK call n b67_10 [(0, y0)] m (k67_10 call n m0) (x67_10 call n m0)
theorem l67_10 {call : CL} {n : Nat} {m0 : Mem} : d67_10 call n m0 = S67_10 call n m0 := by
  funext y0 m
  have h : d67_10 call n m0 y0 m = G67_10 call n m0 (d67_8 call n) (d67_9 call n m0) y0 m := Eq.mp (by kernel_rfl) (g67_10 call n m0 b67_8 b67_9 y0 m)
  rw [l67_8, l67_9] at h; exact h
def G67 (call : CL) (n : Nat) (m0 : Mem) (Q67_10 : Y1) (y0 : AV) (m : Mem) : Rho :=
  vK (aLen m 1 y0) m fun a0 m1 =>
  binK .lss a0 (.int .i64 2) fun a2 =>
  condK a2
  (retK false false m0 [y0] m1)
  (Q67_10 y0 m1)
theorem g67 (call : CL) (n : Nat) (m0 : Mem) (b67_10 : C) (y0 : AV) (m : Mem) : evK call n (c67 b67_10) [(0, y0)] m (fun e m => endK f67 m0 .nrm e m) (endK f67 m0) = G67 call n m0 (fun x0 m => evK call n b67_10 [(0, x0)] m (fun e m => endK f67 m0 .nrm e m) (endK f67 m0)) y0 m := by kernel_rfl
def S67 (call : CL) (n : Nat) (m0 : Mem) (y0 : AV) : Rho := G67 call n m0 (S67_10 call n m0) y0 { m0 with bad := none }
theorem s67 (call : CL) (n : Nat) (m0 : Mem) (y0 : AV) : bodyK call n f67 [y0] m0 = S67 call n m0 y0 :=
  have h : bodyK call n f67 [y0] m0 = G67 call n m0 (d67_10 call n m0) y0 { m0 with bad := none } := Eq.mp (by kernel_rfl) (g67 call n m0 b67_10 y0 { m0 with bad := none })
  by rw [l67_10] at h; exact h
def F67 : SF := fun call n vs m0 => unc vs fun x0 vs => unz vs (S67 call n m0 x0)
theorem F67_ok {orc : List AV → Mem → Option (AV × Mem)} : SOk 67 { f67 with orc := orc } F67 := by
  intro call n vs m0 ho r h0
  simp only [F67] at h0
  obtain ⟨y0, v0, rfl, h1⟩ := unc_some h0
  obtain ⟨rfl, hz⟩ := unz_some h1
  exact bodyK_le ho rfl r (Eq.mp (by kernel_rfl) ((s67 call n m0 y0).trans hz))

-- slices.Concat[[][2]int,[2]int]
def G68_5 (call : CL) (n : Nat) (m0 : Mem) (y0 : AV) (m : Mem) : Rho :=
  retK false false m0 [y0] m
theorem g68_5 (call : CL) (n : Nat) (m0 : Mem) (y0 : AV) (m : Mem) : evK call n b68_5 [(6, y0)] m (fun e m => endK f68 m0 .nrm e m) (endK f68 m0) = G68_5 call n m0 y0 m := by kernel_rfl
def k68_5 (call : CL) (n : Nat) (m0 : Mem) : KN := (fun e m => endK f68 m0 .nrm e m)
def x68_5 (call : CL) (n : Nat) (m0 : Mem) : KX := (endK f68 m0)
def S68_5 (call : CL) (n : Nat) (m0 : Mem) (y0 : AV) (m : Mem) : Rho := G68_5 call n m0 y0 m
def d68_5 (call : CL) (n : Nat) (m0 : Mem) (y0 : AV) (m : Mem) : Rho := evK call n b68_5 [(6, y0)] m (k68_5 call n m0) (x68_5 call n m0)
theorem l68_5 {call : CL} {n : Nat} {m0 : Mem} : d68_5 call n m0 = S68_5 call n m0 := by
  funext y0 m
  have h : d68_5 call n m0 y0 m = G68_5 call n m0 y0 m := Eq.mp (by kernel_rfl) (g68_5 call n m0 y0 m)
  exact h
def G68_3 (call : CL) (n : Nat) (kn : KN) (kx : KX) (y0 y1 y2 y3 : AV) (m : Mem) : Rho :=
  vK (aIndexAddr m 1 y1 y3) m fun a0 m1 =>
  loadK none a0 m1 fun a2 m3 =>
  appendK 2 16 1 y0 a2 m3 fun a4 m5 =>
  binK .add y3 (.int .i64 1) fun a6 =>
  kn [(6, a4), (25, y1), (26, y2), (27, a6)] m5
theorem g68_3 (call : CL) (n : Nat) (kn : KN) (kx : KX) (y0 y1 y2 y3 : AV) (m : Mem) : evK call n b68_3 [(6, y0), (25, y1), (26, y2), (27, y3)] m kn kx = G68_3 call n kn kx y0 y1 y2 y3 m := by kernel_rfl
def k68_3 (call : CL) (n : Nat) (kn : KN) (kx : KX) : KN := kn
def x68_3 (call : CL) (n : Nat) (kn : KN) (kx : KX) : KX := kx
def S68_3 (call : CL) (n : Nat) (kn : KN) (kx : KX) (y0 y1 y2 y3 : AV) (m : Mem) : Rho := G68_3 call n kn kx y0 y1 y2 y3 m
def d68_3 (call : CL) (n : Nat) (kn : KN) (kx : KX) (y0 y1 y2 y3 : AV) (m : Mem) : Rho := evK call n b68_3 [(6, y0), (25, y1), (26, y2), (27, y3)] m (k68_3 call n kn kx) (x68_3 call n kn kx)
theorem l68_3 {call : CL} {n : Nat} {kn : KN} {kx : KX} : d68_3 call n kn kx = S68_3 call n kn kx := by
  funext y0 y1 y2 y3 m
  have h : d68_3 call n kn kx y0 y1 y2 y3 m = G68_3 call n kn kx y0 y1 y2 y3 m := Eq.mp (by kernel_rfl) (g68_3 call n kn kx y0 y1 y2 y3 m)
  exact h
def G68_4 (call : CL) (n : Nat) (kn : KN) (kx : KX) (Q68_3 : Y4) (y0 y1 y2 y3 : AV) (m : Mem) : Rho :=
  binK .lss y3 y2 fun a0 =>
  condK a0
  (Q68_3 y0 y1 y2 y3 m)
  (kx (.ext 2) [(6, y0), (25, y1), (26, y2), (27, y3), (28, a0)] m)
theorem g68_4 (call : CL) (n : Nat) (kn : KN) (kx : KX) (b68_3 : C) (y0 y1 y2 y3 : AV) (m : Mem) : evK call n (c68_4 b68_3) [(6, y0), (25, y1), (26, y2), (27, y3)] m kn kx = G68_4 call n kn kx (fun x0 x1 x2 x3 m => evK call n b68_3 [(6, x0), (25, x1), (26, x2), (27, x3)] m kn kx) y0 y1 y2 y3 m := by kernel_rfl
def S68_4 (call : CL) (n : Nat) (kn : KN) (kx : KX) (y0 y1 y2 y3 : AV) (m : Mem) : Rho := G68_4 call n kn kx (S68_3 call n kn kx) y0 y1 y2 y3 m
def d68_4 (call : CL) (n : Nat) (kn : KN) (kx : KX) (y0 y1 y2 y3 : AV) (m : Mem) : Rho := evK call n b68_4 [(6, y0), (25, y1), (26, y2), (27, y3)] m kn kx
theorem l68_4 {call : CL} {n : Nat} : d68_4 call n = S68_4 call n := by
  funext kn kx y0 y1 y2 y3 m
  have h : d68_4 call n kn kx y0 y1 y2 y3 m = G68_4 call n kn kx (d68_3 call n kn kx) y0 y1 y2 y3 m := Eq.mp (by kernel_rfl) (g68_4 call n kn kx b68_3 y0 y1 y2 y3 m)
  rw [l68_3] at h; exact h
def G68_6 (call : CL) (n : Nat) (m0 : Mem) (B68_4 : KN → KX → Y4) (Q68_5 : Y1) (y0 y1 : AV) (m : Mem) : Rho :=
  callK call (.func 89 [] []) true [(.list .full 0 []), y1] m fun a0 m1 =>
  vK (aLen m1 1 y0) m1 fun a2 m3 =>
  loopV [6, 25, 26, 27] none (fun vs m kn kx => unc vs fun x0 vs => unc vs fun x1 vs => unc vs fun x2 vs => unc vs fun x3 vs => unz vs (B68_4 kn kx x0 x1 x2 x3 m)) (blkK 2 (fun e m => keepK e [6] fun vs => unc vs fun x0 vs => unz vs (Q68_5 x0 m)) (endK f68 m0)) n [a0, y0, a2, (.int .i64 0)] m3
theorem g68_6 (call : CL) (n : Nat) (m0 : Mem) (b68_4 : C) (b68_5 : C) (y0 y1 : AV) (m : Mem) : evK call n (c68_6 b68_4 b68_5) [(0, y0), (3, y1)] m (fun e m => endK f68 m0 .nrm e m) (endK f68 m0) = G68_6 call n m0 (fun kn kx x0 x1 x2 x3 m => evK call n b68_4 [(6, x0), (25, x1), (26, x2), (27, x3)] m kn kx) (fun x0 m => evK call n b68_5 [(6, x0)] m (fun e m => endK f68 m0 .nrm e m) (endK f68 m0)) y0 y1 m := by kernel_rfl
def k68_6 (call : CL) (n : Nat) (m0 : Mem) : KN := (fun e m => endK f68 m0 .nrm e m)
def x68_6 (call : CL) (n : Nat) (m0 : Mem) : KX := (endK f68 m0)
def S68_6 (call : CL) (n : Nat) (m0 : Mem) (y0 y1 : AV) (m : Mem) : Rho := G68_6 call n m0 (S68_4 call n) (S68_5 call n m0) y0 y1 m
def d68_6 (call : CL) (n : Nat) (m0 : Mem) (y0 y1 : AV) (m : Mem) : Rho := evK call n b68_6 [(0, y0), (3, y1)] m (k68_6 call n m0) (x68_6 call n m0)
theorem l68_6 {call : CL} {n : Nat} {m0 : Mem} : d68_6 call n m0 = S68_6 call n m0 := by
  funext y0 y1 m
  have h : d68_6 call n m0 y0 y1 m = G68_6 call n m0 (d68_4 call n) (d68_5 call n m0) y0 y1 m := Eq.mp (by kernel_rfl) (g68_6 call n m0 b68_4 b68_5 y0 y1 m)
  rw [l68_4, l68_5] at h; exact h
def G68_0 (call : CL) (n : Nat) (kn : KN) (kx : KX) (y0 y1 y2 y3 y4 : AV) (m : Mem) : Rho :=
  binK .add y4 (.int .i64 1) fun a0 =>
  kn [(0, y0), (3, y1), (9, y2), (10, y3), (11, a0)] m
theorem g68_0 (call : CL) (n : Nat) (kn : KN) (kx : KX) (y0 y1 y2 y3 y4 : AV) (m : Mem) : evK call n b68_0 [(0, y0), (3, y1), (9, y2), (10, y3), (11, y4)] m kn kx = G68_0 call n kn kx y0 y1 y2 y3 y4 m := by kernel_rfl
def k68_0 (call : CL) (n : Nat) (kn : KN) (kx : KX) : KN := kn
def x68_0 (call : CL) (n : Nat) (kn : KN) (kx : KX) : KX := kx
def S68_0 (call : CL) (n : Nat) (kn : KN) (kx : KX) (y0 y1 y2 y3 y4 : AV) (m : Mem) : Rho := G68_0 call n kn kx y0 y1 y2 y3 y4 m
def d68_0 (call : CL) (n : Nat) (kn : KN) (kx : KX) (y0 y1 y2 y3 y4 : AV) (m : Mem) : Rho := evK call n b68_0 [(0, y0), (3, y1), (9, y2), (10, y3), (11, y4)] m (k68_0 call n kn kx) (x68_0 call n kn kx)
theorem l68_0 {call : CL} {n : Nat} {kn : KN} {kx : KX} : d68_0 call n kn kx = S68_0 call n kn kx := by
  funext y0 y1 y2 y3 y4 m
  have h : d68_0 call n kn kx y0 y1 y2 y3 y4 m = G68_0 call n kn kx y0 y1 y2 y3 y4 m := Eq.mp (by kernel_rfl) (g68_0 call n kn kx y0 y1 y2 y3 y4 m)
  exact h
def G68_1 (call : CL) (n : Nat) (kn : KN) (kx : KX) (Q68_0 : Y5) (y0 y1 y2 y3 y4 : AV) (m : Mem) : Rho :=
  vK (aIndexAddr m 1 y2 y4) m fun a0 m1 =>
  loadK none a0 m1 fun a2 m3 =>
  vK (aLen m3 1 a2) m3 fun a4 m5 =>
  binK .add y1 a4 fun a6 =>
  binK .lss a6 (.int .i64 0) fun a7 =>
  condK a7
  (none)
  (Q68_0 y0 a6 y2 y3 y4 m5)
theorem g68_1 (call : CL) (n : Nat) (kn : KN) (kx : KX) (b68_0 : C) (y0 y1 y2 y3 y4 : AV) (m : Mem) : evK call n (c68_1 b68_0) [(0, y0), (3, y1), (9, y2), (10, y3), (11, y4)] m kn kx = G68_1 call n kn kx (fun x0 x1 x2 x3 x4 m => evK call n b68_0 [(0, x0), (3, x1), (9, x2), (10, x3), (11, x4)] m kn kx) y0 y1 y2 y3 y4 m := by kernel_rfl
def k68_1 (call : CL) (n : Nat) (kn : KN) (kx : KX) : KN := kn
def x68_1 (call : CL) (n : Nat) (kn : KN) (kx : KX) : KX := kx
def S68_1 (call : CL) (n : Nat) (kn : KN) (kx : KX) (y0 y1 y2 y3 y4 : AV) (m : Mem) : Rho := G68_1 call n kn kx (S68_0 call n kn kx) y0 y1 y2 y3 y4 m
def d68_1 (call : CL) (n : Nat) (kn : KN) (kx : KX) (y0 y1 y2 y3 y4 : AV) (m : Mem) : Rho := evK call n b68_1 [(0, y0), (3, y1), (9, y2), (10, y3), (11, y4)] m (k68_1 call n kn kx) (x68_1 call n kn kx)
theorem l68_1 {call : CL} {n : Nat} {kn : KN} {kx : KX} : d68_1 call n kn kx = S68_1 call n kn kx := by
  funext y0 y1 y2 y3 y4 m
  have h : d68_1 call n kn kx y0 y1 y2 y3 y4 m = G68_1 call n kn kx (d68_0 call n kn kx) y0 y1 y2 y3 y4 m := Eq.mp (by kernel_rfl) (g68_1 call n kn kx b68_0 y0 y1 y2 y3 y4 m)
  rw [l68_0] at h; exact h
def G68_2 (call : CL) (n : Nat) (kn : KN) (kx : KX) (Q68_1 : Y5) (y0 y1 y2 y3 y4 : AV) (m : Mem) : Rho :=
  binK .lss y4 y3 fun a0 =>
  condK a0
  (Q68_1 y0 y1 y2 y3 y4 m)
  (kx (.ext 0) [(0, y0), (3, y1), (9, y2), (10, y3), (11, y4), (12, a0)] m)
theorem g68_2 (call : CL) (n : Nat) (kn : KN) (kx : KX) (b68_1 : C) (y0 y1 y2 y3 y4 : AV) (m : Mem) : evK call n (c68_2 b68_1) [(0, y0), (3, y1), (9, y2), (10, y3), (11, y4)] m kn kx = G68_2 call n kn kx (fun x0 x1 x2 x3 x4 m => evK call n b68_1 [(0, x0), (3, x1), (9, x2), (10, x3), (11, x4)] m kn kx) y0 y1 y2 y3 y4 m := by kernel_rfl
def S68_2 (call : CL) (n : Nat) (kn : KN) (kx : KX) (y0 y1 y2 y3 y4 : AV) (m : Mem) : Rho := G68_2 call n kn kx (S68_1 call n kn kx) y0 y1 y2 y3 y4 m
def d68_2 (call : CL) (n : Nat) (kn : KN) (kx : KX) (y0 y1 y2 y3 y4 : AV) (m : Mem) : Rho := evK call n b68_2 [(0, y0), (3, y1), (9, y2), (10, y3), (11, y4)] m kn kx
theorem l68_2 {call : CL} {n : Nat} : d68_2 call n = S68_2 call n := by
  funext kn kx y0 y1 y2 y3 y4 m
  have h : d68_2 call n kn kx y0 y1 y2 y3 y4 m = G68_2 call n kn kx (d68_1 call n kn kx) y0 y1 y2 y3 y4 m := Eq.mp (by kernel_rfl) (g68_2 call n kn kx b68_1 y0 y1 y2 y3 y4 m)
  rw [l68_1] at h; exact h
def G68 (call : CL) (n : Nat) (m0 : Mem) (B68_2 : KN → KX → Y5) (Q68_6 : Y2) (y0 : AV) (m : Mem) : Rho :=
  vK (aLen m 1 y0) m fun a0 m1 =>
  loopV [0, 3, 9, 10, 11] none (fun vs m kn kx => unc vs fun x0 vs => unc vs fun x1 vs => unc vs fun x2 vs => unc vs fun x3 vs => unc vs fun x4 vs => unz vs (B68_2 kn kx x0 x1 x2 x3 x4 m)) (blkK 0 (fun e m => keepK e [0, 3] fun vs => unc vs fun x0 vs => unc vs fun x1 vs => unz vs (Q68_6 x0 x1 m)) (endK f68 m0)) n [y0, (.int .i64 0), y0, a0, (.int .i64 0)] m1
theorem g68 (call : CL) (n : Nat) (m0 : Mem) (b68_2 : C) (b68_6 : C) (y0 : AV) (m : Mem) : evK call n (c68 b68_2 b68_6) [(0, y0)] m (fun e m => endK f68 m0 .nrm e m) (endK f68 m0) = G68 call n m0 (fun kn kx x0 x1 x2 x3 x4 m => evK call n b68_2 [(0, x0), (3, x1), (9, x2), (10, x3), (11, x4)] m kn kx) (fun x0 x1 m => evK call n b68_6 [(0, x0), (3, x1)] m (fun e m => endK f68 m0 .nrm e m) (endK f68 m0)) y0 m := by kernel_rfl
def S68 (call : CL) (n : Nat) (m0 : Mem) (y0 : AV) : Rho := G68 call n m0 (S68_2 call n) (S68_6 call n m0) y0 { m0 with bad := none }
theorem s68 (call : CL) (n : Nat) (m0 : Mem) (y0 : AV) : bodyK call n f68 [y0] m0 = S68 call n m0 y0 :=
  have h : bodyK call n f68 [y0] m0 = G68 call n m0 (d68_2 call n) (d68_6 call n m0) y0 { m0 with bad := none } := Eq.mp (by kernel_rfl) (g68 call n m0 b68_2 b68_6 y0 { m0 with bad := none })
  by rw [l68_2, l68_6] at h; exact h
def F68 : SF := fun call n vs m0 => unc vs fun x0 vs => unz vs (S68 call n m0 x0)
theorem F68_ok {orc : List AV → Mem → Option (AV × Mem)} : SOk 68 { f68 with orc := orc } F68 := by
  intro call n vs m0 ho r h0
  simp only [F68] at h0
  obtain ⟨y0, v0, rfl, h1⟩ := unc_some h0
  obtain ⟨rfl, hz⟩ := unz_some h1
  exact bodyK_le ho rfl r (Eq.mp (by kernel_rfl) ((s68 call n m0 y0).trans hz))

-- slices.DeleteFunc[[][2]int,[2]int]
def G70_3 (call : CL) (n : Nat) (m0 : Mem) (y0 y1 : AV) (m : Mem) : Rho :=
  vK (aSlice 2 y0 (some y1) none) m fun a0 m1 =>
  clearK 2 [(.int .i64 0), (.int .i64 0)] a0 m1 fun a2 m3 =>
  vK (aSlice 2 y0 none (some y1)) m3 fun a4 m5 =>
  retK false false m0 [a4] m5
theorem g70_3 (call : CL) (n : Nat) (m0 : Mem) (y0 y1 : AV) (m : Mem) : evK call n b70_3 [(0, y0), (5, y1)] m (fun e m => endK f70 m0 .nrm e m) (endK f70 m0) = G70_3 call n m0 y0 y1 m := by kernel_rfl
def k70_3 (call : CL) (n : Nat) (m0 : Mem) : KN := (fun e m => endK f70 m0 .nrm e m)
def x70_3 (call : CL) (n : Nat) (m0 : Mem) : KX := (endK f70 m0)
def S70_3 (call : CL) (n : Nat) (m0 : Mem) (y0 y1 : AV) (m : Mem) : Rho := G70_3 call n m0 y0 y1 m
def d70_3 (call : CL) (n : Nat) (m0 : Mem) (y0 y1 : AV) (m : Mem) : Rho := evK call n b70_3 [(0, y0), (5, y1)] m (k70_3 call n m0) (x70_3 call n m0)
theorem l70_3 {call : CL} {n : Nat} {m0 : Mem} : d70_3 call n m0 = S70_3 call n m0 := by
  funext y0 y1 m
  have h : d70_3 call n m0 y0 y1 m = G70_3 call n m0 y0 y1 m := Eq.mp (by kernel_rfl) (g70_3 call n m0 y0 y1 m)
  exact h
def G70_0 (call : CL) (n : Nat) (kn : KN) (kx : KX) (y0 y1 y2 y3 : AV) (m : Mem) : Rho :=
  binK .add y3 (.int .i64 1) fun a0 =>
  kn [(0, y0), (1, y1), (5, y2), (6, a0)] m
theorem g70_0 (call : CL) (n : Nat) (kn : KN) (kx : KX) (y0 y1 y2 y3 : AV) (m : Mem) : evK call n b70_0 [(0, y0), (1, y1), (5, y2), (6, y3)] m kn kx = G70_0 call n kn kx y0 y1 y2 y3 m := by kernel_rfl
def k70_0 (call : CL) (n : Nat) (kn : KN) (kx : KX) : KN := kn
def x70_0 (call : CL) (n : Nat) (kn : KN) (kx : KX) : KX := kx
def S70_0 (call : CL) (n : Nat) (kn : KN) (kx : KX) (y0 y1 y2 y3 : AV) (m : Mem) : Rho := G70_0 call n kn kx y0 y1 y2 y3 m
def d70_0 (call : CL) (n : Nat) (kn : KN) (kx : KX) (y0 y1 y2 y3 : AV) (m : Mem) : Rho := evK call n b70_0 [(0, y0), (1, y1), (5, y2), (6, y3)] m (k70_0 call n kn kx) (x70_0 call n kn kx)
theorem l70_0 {call : CL} {n : Nat} {kn : KN} {kx : KX} : d70_0 call n kn kx = S70_0 call n kn kx := by
  funext y0 y1 y2 y3 m
  have h : d70_0 call n kn kx y0 y1 y2 y3 m = G70_0 call n kn kx y0 y1 y2 y3 m := Eq.mp (by kernel_rfl) (g70_0 call n kn kx y0 y1 y2 y3 m)
  exact h
def G70_1 (call : CL) (n : Nat) (kn : KN) (kx : KX) (Q70_0 : Y4) (y0 y1 y2 y3 : AV) (m : Mem) : Rho :=
  vK (aIndexAddr m 2 y0 y3) m fun a0 m1 =>
  loadK (some 2) a0 m1 fun a2 m3 =>
  newK [(.int .i64 0), (.int .i64 0)] m3 fun a4 m5 =>
  storeK 2 a4 a2 m5 fun a6 m7 =>
  loadK (some 2) a4 m7 fun a8 m9 =>
  callK call y1 false [a8] m9 fun a10 m11 =>
  unK .not a10 fun a12 =>
  condK a12
  (loadK (some 2) a4 m11 fun a13 m14 =>
  vK (aIndexAddr m14 2 y0 y2) m14 fun a15 m16 =>
  storeK 2 a15 a13 m16 fun a17 m18 =>
  binK .add y2 (.int .i64 1) fun a19 =>
  Q70_0 y0 y1 a19 y3 m18)
  (Q70_0 y0 y1 y2 y3 m11)
theorem g70_1 (call : CL) (n : Nat) (kn : KN) (kx : KX) (b70_0 : C) (y0 y1 y2 y3 : AV) (m : Mem) : evK call n (c70_1 b70_0) [(0, y0), (1, y1), (5, y2), (6, y3)] m kn kx = G70_1 call n kn kx (fun x0 x1 x2 x3 m => evK call n b70_0 [(0, x0), (1, x1), (5, x2), (6, x3)] m kn kx) y0 y1 y2 y3 m := by kernel_rfl
def k70_1 (call : CL) (n : Nat) (kn : KN) (kx : KX) : KN := kn
def x70_1 (call : CL) (n : Nat) (kn : KN) (kx : KX) : KX := kx
def S70_1 (call : CL) (n : Nat) (kn : KN) (kx : KX) (y0 y1 y2 y3 : AV) (m : Mem) : Rho := G70_1 call n kn kx (S70_0 call n kn kx) y0 y1 y2 y3 m
def d70_1 (call : CL) (n : Nat) (kn : KN) (kx : KX) (y0 y1 y2 y3 : AV) (m : Mem) : Rho := evK call n b70_1 [(0, y0), (1, y1), (5, y2), (6, y3)] m (k70_1 call n kn kx) (x70_1 call n kn kx)
theorem l70_1 {call : CL} {n : Nat} {kn : KN} {kx : KX} : d70_1 call n kn kx = S70_1 call n kn kx := by
  funext y0 y1 y2 y3 m
  have h : d70_1 call n kn kx y0 y1 y2 y3 m = G70_1 call n kn kx (d70_0 call n kn kx) y0 y1 y2 y3 m := Eq.mp (by kernel_rfl) (g70_1 call n kn kx b70_0 y0 y1 y2 y3 m)
  rw [l70_0] at h; exact h
def G70_2 (call : CL) (n : Nat) (kn : KN) (kx : KX) (Q70_1 : Y4) (y0 y1 y2 y3 : AV) (m : Mem) : Rho :=
  vK (aLen m 1 y0) m fun a0 m1 =>
  binK .lss y3 a0 fun a2 =>
  condK a2
  (Q70_1 y0 y1 y2 y3 m1)
  (kx (.ext 0) [(0, y0), (1, y1), (5, y2), (6, y3), (19, a2)] m1)
theorem g70_2 (call : CL) (n : Nat) (kn : KN) (kx : KX) (b70_1 : C) (y0 y1 y2 y3 : AV) (m : Mem) : evK call n (c70_2 b70_1) [(0, y0), (1, y1), (5, y2), (6, y3)] m kn kx = G70_2 call n kn kx (fun x0 x1 x2 x3 m => evK call n b70_1 [(0, x0), (1, x1), (5, x2), (6, x3)] m kn kx) y0 y1 y2 y3 m := by kernel_rfl
def S70_2 (call : CL) (n : Nat) (kn : KN) (kx : KX) (y0 y1 y2 y3 : AV) (m : Mem) : Rho := G70_2 call n kn kx (S70_1 call n kn kx) y0 y1 y2 y3 m
def d70_2 (call : CL) (n : Nat) (kn : KN) (kx : KX) (y0 y1 y2 y3 : AV) (m : Mem) : Rho := evK call n b70_2 [(0, y0), (1, y1), (5, y2), (6, y3)] m kn kx
theorem l70_2 {call : CL} {n : Nat} : d70_2 call n = S70_2 call n := by
  funext kn kx y0 y1 y2 y3 m
  have h : d70_2 call n kn kx y0 y1 y2 y3 m = G70_2 call n kn kx (d70_1 call n kn kx) y0 y1 y2 y3 m := Eq.mp (by kernel_rfl) (g70_2 call n kn kx b70_1 y0 y1 y2 y3 m)
  rw [l70_1] at h; exact h
def G70_4 (call : CL) (n : Nat) (m0 : Mem) (B70_2 : KN → KX → Y4) (Q70_3 : Y2) (y0 y1 y2 : AV) (m : Mem) : Rho :=
  binK .add y2 (.int .i64 1) fun a0 =>
  loopV [0, 1, 5, 6] none (fun vs m kn kx => unc vs fun x0 vs => unc vs fun x1 vs => unc vs fun x2 vs => unc vs fun x3 vs => unz vs (B70_2 kn kx x0 x1 x2 x3 m)) (blkK 0 (fun e m => keepK e [0, 5] fun vs => unc vs fun x0 vs => unc vs fun x1 vs => unz vs (Q70_3 x0 x1 m)) (endK f70 m0)) n [y0, y1, y2, a0] m
theorem g70_4 (call : CL) (n : Nat) (m0 : Mem) (b70_2 : C) (b70_3 : C) (y0 y1 y2 : AV) (m : Mem) : evK call n (c70_4 b70_2 b70_3) [(0, y0), (1, y1), (5, y2)] m (fun e m => endK f70 m0 .nrm e m) (endK f70 m0) = G70_4 call n m0 (fun kn kx x0 x1 x2 x3 m => evK call n b70_2 [(0, x0), (1, x1), (5, x2), (6, x3)] m kn kx) (fun x0 x1 m => evK call n b70_3 [(0, x0), (5, x1)] m (fun e m => endK f70 m0 .nrm e m) (endK f70 m0)) y0 y1 y2 m := by kernel_rfl
def k70_4 (call : CL) (n : Nat) (m0 : Mem) : KN := (fun e m => endK f70 m0 .nrm e m)
def x70_4 (call : CL) (n : Nat) (m0 : Mem) : KX := (endK f70 m0)
def S70_4 (call : CL) (n : Nat) (m0 : Mem) (y0 y1 y2 : AV) (m : Mem) : Rho := G70_4 call n m0 (S70_2 call n) (S70_3 call n m0) y0 y1 y2 m
def d70_4 (call : CL) (n : Nat) (m0 : Mem) (y0 y1 y2 : AV) (m : Mem) : Rho := evK call n b70_4 [(0, y0), (1, y1), (5, y2)] m (k70_4 call n m0) (x70_4 call n m0)
theorem l70_4 {call : CL} {n : Nat} {m0 : Mem} : d70_4 call n m0 = S70_4 call n m0 := by
  funext y0 y1 y2 m
  have h : d70_4 call n m0 y0 y1 y2 m = G70_4 call n m0 (d70_2 call n) (d70_3 call n m0) y0 y1 y2 m := Eq.mp (by kernel_rfl) (g70_4 call n m0 b70_2 b70_3 y0 y1 y2 m)
  rw [l70_2, l70_3] at h; exact h
def G70 (call : CL) (n : Nat) (m0 : Mem) (Q70_4 : Y3) (y0 y1 : AV) (m : Mem) : Rho :=
  callK call (.func 90 [] []) false [y0, y1] m fun a0 m1 =>
  binK .eql a0 (.int .i64 (-1)) fun a2 =>
  condK a2
  (retK false false m0 [y0] m1)
  (Q70_4 y0 y1 a0 m1)
theorem g70 (call : CL) (n : Nat) (m0 : Mem) (b70_4 : C) (y0 y1 : AV) (m : Mem) : evK call n (c70 b70_4) [(0, y0), (1, y1)] m (fun e m => endK f70 m0 .nrm e m) (endK f70 m0) = G70 call n m0 (fun x0 x1 x2 m => evK call n b70_4 [(0, x0), (1, x1), (5, x2)] m (fun e m => endK f70 m0 .nrm e m) (endK f70 m0)) y0 y1 m := by kernel_rfl
def S70 (call : CL) (n : Nat) (m0 : Mem) (y0 y1 : AV) : Rho := G70 call n m0 (S70_4 call n m0) y0 y1 { m0 with bad := none }
theorem s70 (call : CL) (n : Nat) (m0 : Mem) (y0 y1 : AV) : bodyK call n f70 [y0, y1] m0 = S70 call n m0 y0 y1 :=
  have h : bodyK call n f70 [y0, y1] m0 = G70 call n m0 (d70_4 call n m0) y0 y1 { m0 with bad := none } := Eq.mp (by kernel_rfl) (g70 call n m0 b70_4 y0 y1 { m0 with bad := none })
  by rw [l70_4] at h; exact h
def F70 : SF := fun call n vs m0 => unc vs fun x0 vs => unc vs fun x1 vs => unz vs (S70 call n m0 x0 x1)
theorem F70_ok {orc : List AV → Mem → Option (AV × Mem)} : SOk 70 { f70 with orc := orc } F70 := by
  intro call n vs m0 ho r h0
  simp only [F70] at h0
  obtain ⟨y0, v0, rfl, h1⟩ := unc_some h0
  obtain ⟨y1, v1, rfl, h2⟩ := unc_some h1
  obtain ⟨rfl, hz⟩ := unz_some h2
  exact bodyK_le ho rfl r (Eq.mp (by kernel_rfl) ((s70 call n m0 y0 y1).trans hz))

-- resolvent/pairs.Without$1
def G71 (call : CL) (n : Nat) (m0 : Mem) (y0 y1 : AV) (m : Mem) : Rho :=
  boxK y0 m fun a0 m1 =>
  loadK none y1 m1 fun a2 m3 =>
  vK (aIndexAddrA 2 1 a0 (.int .i64 0)) m3 fun a4 m5 =>
  loadK none a4 m5 fun a6 m7 =>
  callK call (.func 49 [] []) false [a2, a6] m7 fun a8 m9 =>
  gK a8 false (fun k => loadK none y1 m9 fun a10 m11 =>
  k a10 m11) m9 fun a12 m13 =>
  gK a8 false (fun k => vK (aIndexAddrA 2 1 a0 (.int .i64 1)) m13 fun a14 m15 =>
  k a14 m15) m13 fun a16 m17 =>
  gK a8 false (fun k => loadK none a16 m17 fun a18 m19 =>
  k a18 m19) m17 fun a20 m21 =>
  gK a8 false (fun k => callK call (.func 49 [] []) false [a12, a20] m21 fun a22 m23 =>
  k a22 m23) m21 fun a24 m25 =>
  pickK a8 (some (.bool true)) (some a24) fun a26 =>
  retK false false m0 [a26] m25
theorem g71 (call : CL) (n : Nat) (m0 : Mem) (y0 y1 : AV) (m : Mem) : evK call n b71 [(0, y0), (1, y1)] m (fun e m => endK f71 m0 .nrm e m) (endK f71 m0) = G71 call n m0 y0 y1 m := by kernel_rfl
def S71 (call : CL) (n : Nat) (m0 : Mem) (y0 y1 : AV) : Rho := G71 call n m0 y0 y1 { m0 with bad := none }
theorem s71 (call : CL) (n : Nat) (m0 : Mem) (y0 y1 : AV) : bodyK call n f71 [y0, y1] m0 = S71 call n m0 y0 y1 :=
  have h : bodyK call n f71 [y0, y1] m0 = G71 call n m0 y0 y1 { m0 with bad := none } := Eq.mp (by kernel_rfl) (g71 call n m0 y0 y1 { m0 with bad := none })
  h
def F71 : SF := fun call n vs m0 => unc vs fun x0 vs => unc vs fun x1 vs => unz vs (S71 call n m0 x0 x1)
theorem F71_ok {orc : List AV → Mem → Option (AV × Mem)} : SOk 71 { f71 with orc := orc } F71 := by
  intro call n vs m0 ho r h0
  simp only [F71] at h0
  obtain ⟨y0, v0, rfl, h1⟩ := unc_some h0
  obtain ⟨y1, v1, rfl, h2⟩ := unc_some h1
  obtain ⟨rfl, hz⟩ := unz_some h2
  exact bodyK_le ho rfl r (Eq.mp (by kernel_rfl) ((s71 call n m0 y0 y1).trans hz))

-- slices.DeleteFunc[[]int,int]
def G73_3 (call : CL) (n : Nat) (m0 : Mem) (y0 y1 : AV) (m : Mem) : Rho :=
  vK (aSlice 1 y0 (some y1) none) m fun a0 m1 =>
  clearK 1 [(.int .i64 0)] a0 m1 fun a2 m3 =>
  vK (aSlice 1 y0 none (some y1)) m3 fun a4 m5 =>
  retK false false m0 [a4] m5
theorem g73_3 (call : CL) (n : Nat) (m0 : Mem) (y0 y1 : AV) (m : Mem) : evK call n b73_3 [(0, y0), (5, y1)] m (fun e m => endK f73 m0 .nrm e m) (endK f73 m0) = G73_3 call n m0 y0 y1 m := by kernel_rfl
def k73_3 (call : CL) (n : Nat) (m0 : Mem) : KN := (fun e m => endK f73 m0 .nrm e m)
def x73_3 (call : CL) (n : Nat) (m0 : Mem) : KX := (endK f73 m0)
def S73_3 (call : CL) (n : Nat) (m0 : Mem) (y0 y1 : AV) (m : Mem) : Rho := G73_3 call n m0 y0 y1 m
def d73_3 (call : CL) (n : Nat) (m0 : Mem) (y0 y1 : AV) (m : Mem) : Rho := evK call n b73_3 [(0, y0), (5, y1)] m (k73_3 call n m0) (x73_3 call n m0)
theorem l73_3 {call : CL} {n : Nat} {m0 : Mem} : d73_3 call n m0 = S73_3 call n m0 := by
  funext y0 y1 m
  have h : d73_3 call n m0 y0 y1 m = G73_3 call n m0 y0 y1 m := Eq.mp (by kernel_rfl) (g73_3 call n m0 y0 y1 m)
  exact h
def G73_0 (call : CL) (n : Nat) (kn : KN) (kx : KX) (y0 y1 y2 y3 : AV) (m : Mem) : Rho :=
  binK .add y3 (.int .i64 1) fun a0 =>
  kn [(0, y0), (1, y1), (5, y2), (6, a0)] m
theorem g73_0 (call : CL) (n : Nat) (kn : KN) (kx : KX) (y0 y1 y2 y3 : AV) (m : Mem) : evK call n b73_0 [(0, y0), (1, y1), (5, y2), (6, y3)] m kn kx = G73_0 call n kn kx y0 y1 y2 y3 m := by kernel_rfl
def k73_0 (call : CL) (n : Nat) (kn : KN) (kx : KX) : KN := kn
def x73_0 (call : CL) (n : Nat) (kn : KN) (kx : KX) : KX := kx
def S73_0 (call : CL) (n : Nat) (kn : KN) (kx : KX) (y0 y1 y2 y3 : AV) (m : Mem) : Rho := G73_0 call n kn kx y0 y1 y2 y3 m
def d73_0 (call : CL) (n : Nat) (kn : KN) (kx : KX) (y0 y1 y2 y3 : AV) (m : Mem) : Rho := evK call n b73_0 [(0, y0), (1, y1), (5, y2), (6, y3)] m (k73_0 call n kn kx) (x73_0 call n kn kx)
theorem l73_0 {call : CL} {n : Nat} {kn : KN} {kx : KX} : d73_0 call n kn kx = S73_0 call n kn kx := by
  funext y0 y1 y2 y3 m
  have h : d73_0 call n kn kx y0 y1 y2 y3 m = G73_0 call n kn kx y0 y1 y2 y3 m := Eq.mp (by kernel_rfl) (g73_0 call n kn kx y0 y1 y2 y3 m)
  exact h
def G73_1 (call : CL) (n : Nat) (kn : KN) (kx : KX) (Q73_0 : Y4) (y0 y1 y2 y3 : AV) (m : Mem) : Rho :=
  vK (aIndexAddr m 1 y0 y3) m fun a0 m1 =>
  loadK none a0 m1 fun a2 m3 =>
  callK call y1 false [a2] m3 fun a4 m5 =>
  unK .not a4 fun a6 =>
  condK a6
  (vK (aIndexAddr m5 1 y0 y2) m5 fun a7 m8 =>
  storeK 1 a7 a2 m8 fun a9 m10 =>
  binK .add y2 (.int .i64 1) fun a11 =>
  Q73_0 y0 y1 a11 y3 m10)
  (Q73_0 y0 y1 y2 y3 m5)
theorem g73_1 (call : CL) (n : Nat) (kn : KN) (kx : KX) (b73_0 : C) (y0 y1 y2 y3 : AV) (m : Mem) : evK call n (c73_1 b73_0) [(0, y0), (1, y1), (5, y2), (6, y3)] m kn kx = G73_1 call n kn kx (fun x0 x1 x2 x3 m => evK call n b73_0 [(0, x0), (1, x1), (5, x2), (6, x3)] m kn kx) y0 y1 y2 y3 m := by kernel_rfl
def k73_1 (call : CL) (n : Nat) (kn : KN) (kx : KX) : KN := kn
def x73_1 (call : CL) (n : Nat) (kn : KN) (kx : KX) : KX := kx
def S73_1 (call : CL) (n : Nat) (kn : KN) (kx : KX) (y0 y1 y2 y3 : AV) (m : Mem) : Rho := G73_1 call n kn kx (S73_0 call n kn kx) y0 y1 y2 y3 m
def d73_1 (call : CL) (n : Nat) (kn : KN) (kx : KX) (y0 y1 y2 y3 : AV) (m : Mem) : Rho := evK call n b73_1 [(0, y0), (1, y1), (5, y2), (6, y3)] m (k73_1 call n kn kx) (x73_1 call n kn kx)
theorem l73_1 {call : CL} {n : Nat} {kn : KN} {kx : KX} : d73_1 call n kn kx = S73_1 call n kn kx := by
  funext y0 y1 y2 y3 m
  have h : d73_1 call n kn kx y0 y1 y2 y3 m = G73_1 call n kn kx (d73_0 call n kn kx) y0 y1 y2 y3 m := Eq.mp (by kernel_rfl) (g73_1 call n kn kx b73_0 y0 y1 y2 y3 m)
  rw [l73_0] at h; exact h
def G73_2 (call : CL) (n : Nat) (kn : KN) (kx : KX) (Q73_1 : Y4) (y0 y1 y2 y3 : AV) (m : Mem) : Rho :=
  vK (aLen m 1 y0) m fun a0 m1 =>
  binK .lss y3 a0 fun a2 =>
  condK a2
  (Q73_1 y0 y1 y2 y3 m1)
  (kx (.ext 0) [(0, y0), (1, y1), (5, y2), (6, y3), (19, a2)] m1)
theorem g73_2 (call : CL) (n : Nat) (kn : KN) (kx : KX) (b73_1 : C) (y0 y1 y2 y3 : AV) (m : Mem) : evK call n (c73_2 b73_1) [(0, y0), (1, y1), (5, y2), (6, y3)] m kn kx = G73_2 call n kn kx (fun x0 x1 x2 x3 m => evK call n b73_1 [(0, x0), (1, x1), (5, x2), (6, x3)] m kn kx) y0 y1 y2 y3 m := by kernel_rfl
def S73_2 (call : CL) (n : Nat) (kn : KN) (kx : KX) (y0 y1 y2 y3 : AV) (m : Mem) : Rho := G73_2 call n kn kx (S73_1 call n kn kx) y0 y1 y2 y3 m
def d73_2 (call : CL) (n : Nat) (kn : KN) (kx : KX) (y0 y1 y2 y3 : AV) (m : Mem) : Rho := evK call n b73_2 [(0, y0), (1, y1), (5, y2), (6, y3)] m kn kx
theorem l73_2 {call : CL} {n : Nat} : d73_2 call n = S73_2 call n := by
  funext kn kx y0 y1 y2 y3 m
  have h : d73_2 call n kn kx y0 y1 y2 y3 m = G73_2 call n kn kx (d73_1 call n kn kx) y0 y1 y2 y3 m := Eq.mp (by kernel_rfl) (g73_2 call n kn kx b73_1 y0 y1 y2 y3 m)
  rw [l73_1] at h; exact h
def G73_4 (call : CL) (n : Nat) (m0 : Mem) (B73_2 : KN → KX → Y4) (Q73_3 : Y2) (y0 y1 y2 : AV) (m : Mem) : Rho :=
  binK .add y2 (.int .i64 1) fun a0 =>
  loopV [0, 1, 5, 6] none (fun vs m kn kx => unc vs fun x0 vs => unc vs fun x1 vs => unc vs fun x2 vs => unc vs fun x3 vs => unz vs (B73_2 kn kx x0 x1 x2 x3 m)) (blkK 0 (fun e m => keepK e [0, 5] fun vs => unc vs fun x0 vs => unc vs fun x1 vs => unz vs (Q73_3 x0 x1 m)) (endK f73 m0)) n [y0, y1, y2, a0] m
theorem g73_4 (call : CL) (n : Nat) (m0 : Mem) (b73_2 : C) (b73_3 : C) (y0 y1 y2 : AV) (m : Mem) : evK call n (c73_4 b73_2 b73_3) [(0, y0), (1, y1), (5, y2)] m (fun e m => endK f73 m0 .nrm e m) (endK f73 m0) = G73_4 call n m0 (fun kn kx x0 x1 x2 x3 m => evK call n b73_2 [(0, x0), (1, x1), (5, x2), (6, x3)] m kn kx) (fun x0 x1 m => evK call n b73_3 [(0, x0), (5, x1)] m (fun e m => endK f73 m0 .nrm e m) (endK f73 m0)) y0 y1 y2 m := by kernel_rfl
def k73_4 (call : CL) (n : Nat) (m0 : Mem) : KN := (fun e m => endK f73 m0 .nrm e m)
def x73_4 (call : CL) (n : Nat) (m0 : Mem) : KX := (endK f73 m0)
def S73_4 (call : CL) (n : Nat) (m0 : Mem) (y0 y1 y2 : AV) (m : Mem) : Rho := G73_4 call n m0 (S73_2 call n) (S73_3 call n m0) y0 y1 y2 m
def d73_4 (call : CL) (n : Nat) (m0 : Mem) (y0 y1 y2 : AV) (m : Mem) : Rho := evK call n b73_4 [(0, y0), (1, y1), (5, y2)] m (k73_4 call n m0) (x73_4 call n m0)
theorem l73_4 {call : CL} {n : Nat} {m0 : Mem} : d73_4 call n m0 = S73_4 call n m0 := by
  funext y0 y1 y2 m
  have h : d73_4 call n m0 y0 y1 y2 m = G73_4 call n m0 (d73_2 call n) (d73_3 call n m0) y0 y1 y2 m := Eq.mp (by kernel_rfl) (g73_4 call n m0 b73_2 b73_3 y0 y1 y2 m)
  rw [l73_2, l73_3] at h; exact h
def G73 (call : CL) (n : Nat) (m0 : Mem) (Q73_4 : Y3) (y0 y1 : AV) (m : Mem) : Rho :=
  callK call (.func 91 [] []) false [y0, y1] m fun a0 m1 =>
  binK .eql a0 (.int .i64 (-1)) fun a2 =>
  condK a2
  (retK false false m0 [y0] m1)
  (Q73_4 y0 y1 a0 m1)
theorem g73 (call : CL) (n : Nat) (m0 : Mem) (b73_4 : C) (y0 y1 : AV) (m : Mem) : evK call n (c73 b73_4) [(0, y0), (1, y1)] m (fun e m => endK f73 m0 .nrm e m) (endK f73 m0) = G73 call n m0 (fun x0 x1 x2 m => evK call n b73_4 [(0, x0), (1, x1), (5, x2)] m (fun e m => endK f73 m0 .nrm e m) (endK f73 m0)) y0 y1 m := by kernel_rfl
def S73 (call : CL) (n : Nat) (m0 : Mem) (y0 y1 : AV) : Rho := G73 call n m0 (S73_4 call n m0) y0 y1 { m0 with bad := none }
theorem s73 (call : CL) (n : Nat) (m0 : Mem) (y0 y1 : AV) : bodyK call n f73 [y0, y1] m0 = S73 call n m0 y0 y1 :=
  have h : bodyK call n f73 [y0, y1] m0 = G73 call n m0 (d73_4 call n m0) y0 y1 { m0 with bad := none } := Eq.mp (by kernel_rfl) (g73 call n m0 b73_4 y0 y1 { m0 with bad := none })
  by rw [l73_4] at h; exact h
def F73 : SF := fun call n vs m0 => unc vs fun x0 vs => unc vs fun x1 vs => unz vs (S73 call n m0 x0 x1)
theorem F73_ok {orc : List AV → Mem → Option (AV × Mem)} : SOk 73 { f73 with orc := orc } F73 := by
  intro call n vs m0 ho r h0
  simp only [F73] at h0
  obtain ⟨y0, v0, rfl, h1⟩ := unc_some h0
  obtain ⟨y1, v1, rfl, h2⟩ := unc_some h1
  obtain ⟨rfl, hz⟩ := unz_some h2
  exact bodyK_le ho rfl r (Eq.mp (by kernel_rfl) ((s73 call n m0 y0 y1).trans hz))

-- resolvent/pairs.Places$1
def G74 (call : CL) (n : Nat) (m0 : Mem) (y0 : AV) (m : Mem) : Rho :=
  binK .lss y0 (.int .i64 0) fun a0 =>
  retK false false m0 [a0] m
theorem g74 (call : CL) (n : Nat) (m0 : Mem) (y0 : AV) (m : Mem) : evK call n b74 [(0, y0)] m (fun e m => endK f74 m0 .nrm e m) (endK f74 m0) = G74 call n m0 y0 m := by kernel_rfl
def S74 (call : CL) (n : Nat) (m0 : Mem) (y0 : AV) : Rho := G74 call n m0 y0 { m0 with bad := none }
theorem s74 (call : CL) (n : Nat) (m0 : Mem) (y0 : AV) : bodyK call n f74 [y0] m0 = S74 call n m0 y0 :=
  have h : bodyK call n f74 [y0] m0 = G74 call n m0 y0 { m0 with bad := none } := Eq.mp (by kernel_rfl) (g74 call n m0 y0 { m0 with bad := none })
  h
def F74 : SF := fun call n vs m0 => unc vs fun x0 vs => unz vs (S74 call n m0 x0)
theorem F74_ok {orc : List AV → Mem → Option (AV × Mem)} : SOk 74 { f74 with orc := orc } F74 := by
  intro call n vs m0 ho r h0
  simp only [F74] at h0
  obtain ⟨y0, v0, rfl, h1⟩ := unc_some h0
  obtain ⟨rfl, hz⟩ := unz_some h1
  exact bodyK_le ho rfl r (Eq.mp (by kernel_rfl) ((s74 call n m0 y0).trans hz))

-- slices.Index[[]int,int]
def G79_3 (call : CL) (n : Nat) (m0 : Mem) (m : Mem) : Rho :=
  retK false false m0 [(.int .i64 (-1))] m
theorem g79_3 (call : CL) (n : Nat) (m0 : Mem) (m : Mem) : evK call n b79_3 [] m (fun e m => endK f79 m0 .nrm e m) (endK f79 m0) = G79_3 call n m0 m := by kernel_rfl
def k79_3 (call : CL) (n : Nat) (m0 : Mem) : KN := (fun e m => endK f79 m0 .nrm e m)
def x79_3 (call : CL) (n : Nat) (m0 : Mem) : KX := (endK f79 m0)
def S79_3 (call : CL) (n : Nat) (m0 : Mem) (m : Mem) : Rho := G79_3 call n m0 m
def d79_3 (call : CL) (n : Nat) (m0 : Mem) (m : Mem) : Rho := evK call n b79_3 [] m (k79_3 call n m0) (x79_3 call n m0)
theorem l79_3 {call : CL} {n : Nat} {m0 : Mem} : d79_3 call n m0 = S79_3 call n m0 := by
  funext m
  have h : d79_3 call n m0 m = G79_3 call n m0 m := Eq.mp (by kernel_rfl) (g79_3 call n m0 m)
  exact h
def G79_0 (call : CL) (n : Nat) (kn : KN) (kx : KX) (y0 y1 y2 y3 : AV) (m : Mem) : Rho :=
  binK .add y3 (.int .i64 1) fun a0 =>
  kn [(0, y0), (1, y1), (7, y2), (8, a0)] m
theorem g79_0 (call : CL) (n : Nat) (kn : KN) (kx : KX) (y0 y1 y2 y3 : AV) (m : Mem) : evK call n b79_0 [(0, y0), (1, y1), (7, y2), (8, y3)] m kn kx = G79_0 call n kn kx y0 y1 y2 y3 m := by kernel_rfl
def k79_0 (call : CL) (n : Nat) (kn : KN) (kx : KX) : KN := kn
def x79_0 (call : CL) (n : Nat) (kn : KN) (kx : KX) : KX := kx
def S79_0 (call : CL) (n : Nat) (kn : KN) (kx : KX) (y0 y1 y2 y3 : AV) (m : Mem) : Rho := G79_0 call n kn kx y0 y1 y2 y3 m
def d79_0 (call : CL) (n : Nat) (kn : KN) (kx : KX) (y0 y1 y2 y3 : AV) (m : Mem) : Rho := evK call n b79_0 [(0, y0), (1, y1), (7, y2), (8, y3)] m (k79_0 call n kn kx) (x79_0 call n kn kx)
theorem l79_0 {call : CL} {n : Nat} {kn : KN} {kx : KX} : d79_0 call n kn kx = S79_0 call n kn kx := by
  funext y0 y1 y2 y3 m
  have h : d79_0 call n kn kx y0 y1 y2 y3 m = G79_0 call n kn kx y0 y1 y2 y3 m := Eq.mp (by kernel_rfl) (g79_0 call n kn kx y0 y1 y2 y3 m)
  exact h
def G79_1 (call : CL) (n : Nat) (kn : KN) (kx : KX) (Q79_0 : Y4) (y0 y1 y2 y3 : AV) (m : Mem) : Rho :=
  vK (aIndexAddr m 1 y0 y3) m fun a0 m1 =>
  loadK none a0 m1 fun a2 m3 =>
  binK .eql y1 a2 fun a4 =>
  condK a4
  (kx .ret [(4, y3)] m3)
  (Q79_0 y0 y1 y2 y3 m3)
theorem g79_1 (call : CL) (n : Nat) (kn : KN) (kx : KX) (b79_0 : C) (y0 y1 y2 y3 : AV) (m : Mem) : evK call n (c79_1 b79_0) [(0, y0), (1, y1), (7, y2), (8, y3)] m kn kx = G79_1 call n kn kx (fun x0 x1 x2 x3 m => evK call n b79_0 [(0, x0), (1, x1), (7, x2), (8, x3)] m kn kx) y0 y1 y2 y3 m := by kernel_rfl
def k79_1 (call : CL) (n : Nat) (kn : KN) (kx : KX) : KN := kn
def x79_1 (call : CL) (n : Nat) (kn : KN) (kx : KX) : KX := kx
def S79_1 (call : CL) (n : Nat) (kn : KN) (kx : KX) (y0 y1 y2 y3 : AV) (m : Mem) : Rho := G79_1 call n kn kx (S79_0 call n kn kx) y0 y1 y2 y3 m
def d79_1 (call : CL) (n : Nat) (kn : KN) (kx : KX) (y0 y1 y2 y3 : AV) (m : Mem) : Rho := evK call n b79_1 [(0, y0), (1, y1), (7, y2), (8, y3)] m (k79_1 call n kn kx) (x79_1 call n kn kx)
theorem l79_1 {call : CL} {n : Nat} {kn : KN} {kx : KX} : d79_1 call n kn kx = S79_1 call n kn kx := by
  funext y0 y1 y2 y3 m
  have h : d79_1 call n kn kx y0 y1 y2 y3 m = G79_1 call n kn kx (d79_0 call n kn kx) y0 y1 y2 y3 m := Eq.mp (by kernel_rfl) (g79_1 call n kn kx b79_0 y0 y1 y2 y3 m)
  rw [l79_0] at h; exact h
def G79_2 (call : CL) (n : Nat) (kn : KN) (kx : KX) (Q79_1 : Y4) (y0 y1 y2 y3 : AV) (m : Mem) : Rho :=
  binK .lss y3 y2 fun a0 =>
  condK a0
  (Q79_1 y0 y1 y2 y3 m)
  (kx (.ext 0) [(0, y0), (1, y1), (7, y2), (8, y3), (9, a0)] m)
theorem g79_2 (call : CL) (n : Nat) (kn : KN) (kx : KX) (b79_1 : C) (y0 y1 y2 y3 : AV) (m : Mem) : evK call n (c79_2 b79_1) [(0, y0), (1, y1), (7, y2), (8, y3)] m kn kx = G79_2 call n kn kx (fun x0 x1 x2 x3 m => evK call n b79_1 [(0, x0), (1, x1), (7, x2), (8, x3)] m kn kx) y0 y1 y2 y3 m := by kernel_rfl
def S79_2 (call : CL) (n : Nat) (kn : KN) (kx : KX) (y0 y1 y2 y3 : AV) (m : Mem) : Rho := G79_2 call n kn kx (S79_1 call n kn kx) y0 y1 y2 y3 m
def d79_2 (call : CL) (n : Nat) (kn : KN) (kx : KX) (y0 y1 y2 y3 : AV) (m : Mem) : Rho := evK call n b79_2 [(0, y0), (1, y1), (7, y2), (8, y3)] m kn kx
theorem l79_2 {call : CL} {n : Nat} : d79_2 call n = S79_2 call n := by
  funext kn kx y0 y1 y2 y3 m
  have h : d79_2 call n kn kx y0 y1 y2 y3 m = G79_2 call n kn kx (d79_1 call n kn kx) y0 y1 y2 y3 m := Eq.mp (by kernel_rfl) (g79_2 call n kn kx b79_1 y0 y1 y2 y3 m)
  rw [l79_1] at h; exact h
def G79 (call : CL) (n : Nat) (m0 : Mem) (B79_2 : KN → KX → Y4) (Q79_3 : Y0) (y0 y1 : AV) (m : Mem) : Rho :=
  vK (aLen m 1 y0) m fun a0 m1 =>
  loopV [0, 1, 7, 8] none (fun vs m kn kx => unc vs fun x0 vs => unc vs fun x1 vs => unc vs fun x2 vs => unc vs fun x3 vs => unz vs (B79_2 kn kx x0 x1 x2 x3 m)) (blkK 0 (fun e m => keepK e [] fun vs => unz vs (Q79_3 m)) (endK f79 m0)) n [y0, y1, a0, (.int .i64 0)] m1
theorem g79 (call : CL) (n : Nat) (m0 : Mem) (b79_2 : C) (b79_3 : C) (y0 y1 : AV) (m : Mem) : evK call n (c79 b79_2 b79_3) [(0, y0), (1, y1)] m (fun e m => endK f79 m0 .nrm e m) (endK f79 m0) = G79 call n m0 (fun kn kx x0 x1 x2 x3 m => evK call n b79_2 [(0, x0), (1, x1), (7, x2), (8, x3)] m kn kx) (fun m => evK call n b79_3 [] m (fun e m => endK f79 m0 .nrm e m) (endK f79 m0)) y0 y1 m := by kernel_rfl
def S79 (call : CL) (n : Nat) (m0 : Mem) (y0 y1 : AV) : Rho := G79 call n m0 (S79_2 call n) (S79_3 call n m0) y0 y1 { m0 with bad := none }
theorem s79 (call : CL) (n : Nat) (m0 : Mem) (y0 y1 : AV) : bodyK call n f79 [y0, y1] m0 = S79 call n m0 y0 y1 :=
  have h : bodyK call n f79 [y0, y1] m0 = G79 call n m0 (d79_2 call n) (d79_3 call n m0) y0 y1 { m0 with bad := none } := Eq.mp (by kernel_rfl) (g79 call n m0 b79_2 b79_3 y0 y1 { m0 with bad := none })
  by rw [l79_2, l79_3] at h; exact h
def F79 : SF := fun call n vs m0 => unc vs fun x0 vs => unc vs fun x1 vs => unz vs (S79 call n m0 x0 x1)
theorem F79_ok {orc : List AV → Mem → Option (AV × Mem)} : SOk 79 { f79 with orc := orc } F79 := by
  intro call n vs m0 ho r h0
  simp only [F79] at h0
  obtain ⟨y0, v0, rfl, h1⟩ := unc_some h0
  obtain ⟨y1, v1, rfl, h2⟩ := unc_some h1
  obtain ⟨rfl, hz⟩ := unz_some h2
  exact bodyK_le ho rfl r (Eq.mp (by kernel_rfl) ((s79 call n m0 y0 y1).trans hz))

-- resolvent/pairs.good$1
def G85_0 (call : CL) (n : Nat) (kn : KN) (kx : KX) (y0 y1 y2 y3 : AV) (m : Mem) : Rho :=
  binK .add y3 (.int .i64 1) fun a0 =>
  kn [(0, y0), (5, y1), (6, y2), (7, a0)] m
theorem g85_0 (call : CL) (n : Nat) (kn : KN) (kx : KX) (y0 y1 y2 y3 : AV) (m : Mem) : evK call n b85_0 [(0, y0), (5, y1), (6, y2), (7, y3)] m kn kx = G85_0 call n kn kx y0 y1 y2 y3 m := by kernel_rfl
def k85_0 (call : CL) (n : Nat) (kn : KN) (kx : KX) : KN := kn
def x85_0 (call : CL) (n : Nat) (kn : KN) (kx : KX) : KX := kx
def S85_0 (call : CL) (n : Nat) (kn : KN) (kx : KX) (y0 y1 y2 y3 : AV) (m : Mem) : Rho := G85_0 call n kn kx y0 y1 y2 y3 m
def d85_0 (call : CL) (n : Nat) (kn : KN) (kx : KX) (y0 y1 y2 y3 : AV) (m : Mem) : Rho := evK call n b85_0 [(0, y0), (5, y1), (6, y2), (7, y3)] m (k85_0 call n kn kx) (x85_0 call n kn kx)
theorem l85_0 {call : CL} {n : Nat} {kn : KN} {kx : KX} : d85_0 call n kn kx = S85_0 call n kn kx := by
  funext y0 y1 y2 y3 m
  have h : d85_0 call n kn kx y0 y1 y2 y3 m = G85_0 call n kn kx y0 y1 y2 y3 m := Eq.mp (by kernel_rfl) (g85_0 call n kn kx y0 y1 y2 y3 m)
  exact h
def G85_1 (call : CL) (n : Nat) (kn : KN) (kx : KX) (Q85_0 : Y4) (y0 y1 y2 y3 : AV) (m : Mem) : Rho :=
  vK (aIndexAddr m 2 y1 y3) m fun a0 m1 =>
  loadK (some 2) a0 m1 fun a2 m3 =>
  newK [(.int .i64 0), (.int .i64 0)] m3 fun a4 m5 =>
  storeK 2 a4 a2 m5 fun a6 m7 =>
  vK (aIndexAddrA 2 1 a4 (.int .i64 0)) m7 fun a8 m9 =>
  loadK none a8 m9 fun a10 m11 =>
  vK (aIndexAddrA 2 1 a4 (.int .i64 1)) m11 fun a12 m13 =>
  loadK none a12 m13 fun a14 m15 =>
  min2K a10 a14 fun a16 =>
  vK (aIndexAddrA 2 1 a4 (.int .i64 0)) m15 fun a17 m18 =>
  loadK none a17 m18 fun a19 m20 =>
  vK (aIndexAddrA 2 1 a4 (.int .i64 1)) m20 fun a21 m22 =>
  loadK none a21 m22 fun a23 m24 =>
  max2K a19 a23 fun a25 =>
  buildK [(.int .i64 0), (.int .i64 0)] [(0, 1, AV.untag1 a16), (1, 1, AV.untag1 a25)] fun a26 =>
  storeK 2 a4 a26 m24 fun a27 m28 =>
  vK (aIndexAddrA 2 1 a4 (.int .i64 0)) m28 fun a29 m30 =>
  loadK none a29 m30 fun a31 m32 =>
  binK .geq a31 (.int .i64 0) fun a33 =>
  gK a33 true (fun k => vK (aIndexAddrA 2 1 a4 (.int .i64 0)) m32 fun a34 m35 =>
  k a34 m35) m32 fun a36 m37 =>
  gK a33 true (fun k => loadK none a36 m37 fun a38 m39 =>
  k a38 m39) m37 fun a40 m41 =>
  gK a33 true (fun k => vK (aIndexAddrA 2 1 a4 (.int .i64 1)) m41 fun a42 m43 =>
  k a42 m43) m41 fun a44 m45 =>
  gK a33 true (fun k => loadK none a44 m45 fun a46 m47 =>
  k a46 m47) m45 fun a48 m49 =>
  gK a33 true (fun k => binK .neq a40 a48 fun a50 =>
  k a50 m49) m49 fun a51 m52 =>
  pickK a33 (some a51) (some (.bool false)) fun a53 =>
  gK a53 true (fun k => k y0 m52) m52 fun a54 m55 =>
  gK a53 true (fun k => loadK (some 2) a4 m55 fun a56 m57 =>
  k a56 m57) m55 fun a58 m59 =>
  gK a53 true (fun k => callK call a54 false [a58] m59 fun a60 m61 =>
  k a60 m61) m59 fun a62 m63 =>
  gK a53 true (fun k => unK .not a62 fun a64 =>
  k a64 m63) m63 fun a65 m66 =>
  pickK a53 (some a65) (some (.bool false)) fun a67 =>
  condK a67
  (kx .ret [(0, y0), (5, y1), (6, y2), (7, y3), (37, a67)] m66)
  (Q85_0 y0 y1 y2 y3 m66)
theorem g85_1 (call : CL) (n : Nat) (kn : KN) (kx : KX) (b85_0 : C) (y0 y1 y2 y3 : AV) (m : Mem) : evK call n (c85_1 b85_0) [(0, y0), (5, y1), (6, y2), (7, y3)] m kn kx = G85_1 call n kn kx (fun x0 x1 x2 x3 m => evK call n b85_0 [(0, x0), (5, x1), (6, x2), (7, x3)] m kn kx) y0 y1 y2 y3 m := by kernel_rfl
def k85_1 (call : CL) (n : Nat) (kn : KN) (kx : KX) : KN := kn
def x85_1 (call : CL) (n : Nat) (kn : KN) (kx : KX) : KX := kx
def S85_1 (call : CL) (n : Nat) (kn : KN) (kx : KX) (y0 y1 y2 y3 : AV) (m : Mem) : Rho := G85_1 call n kn kx (S85_0 call n kn kx) y0 y1 y2 y3 m
def d85_1 (call : CL) (n : Nat) (kn : KN) (kx : KX) (y0 y1 y2 y3 : AV) (m : Mem) : Rho := evK call n b85_1 [(0, y0), (5, y1), (6, y2), (7, y3)] m (k85_1 call n kn kx) (x85_1 call n kn kx)
theorem l85_1 {call : CL} {n : Nat} {kn : KN} {kx : KX} : d85_1 call n kn kx = S85_1 call n kn kx := by
  funext y0 y1 y2 y3 m
  have h : d85_1 call n kn kx y0 y1 y2 y3 m = G85_1 call n kn kx (d85_0 call n kn kx) y0 y1 y2 y3 m := Eq.mp (by kernel_rfl) (g85_1 call n kn kx b85_0 y0 y1 y2 y3 m)
  rw [l85_0] at h; exact h
def G85_2 (call : CL) (n : Nat) (kn : KN) (kx : KX) (Q85_1 : Y4) (y0 y1 y2 y3 : AV) (m : Mem) : Rho :=
  binK .lss y3 y2 fun a0 =>
  condK a0
  (Q85_1 y0 y1 y2 y3 m)
  (kx (.ext 0) [(0, y0), (5, y1), (6, y2), (7, y3), (8, a0)] m)
theorem g85_2 (call : CL) (n : Nat) (kn : KN) (kx : KX) (b85_1 : C) (y0 y1 y2 y3 : AV) (m : Mem) : evK call n (c85_2 b85_1) [(0, y0), (5, y1), (6, y2), (7, y3)] m kn kx = G85_2 call n kn kx (fun x0 x1 x2 x3 m => evK call n b85_1 [(0, x0), (5, x1), (6, x2), (7, x3)] m kn kx) y0 y1 y2 y3 m := by kernel_rfl
def S85_2 (call : CL) (n : Nat) (kn : KN) (kx : KX) (y0 y1 y2 y3 : AV) (m : Mem) : Rho := G85_2 call n kn kx (S85_1 call n kn kx) y0 y1 y2 y3 m
def d85_2 (call : CL) (n : Nat) (kn : KN) (kx : KX) (y0 y1 y2 y3 : AV) (m : Mem) : Rho := evK call n b85_2 [(0, y0), (5, y1), (6, y2), (7, y3)] m kn kx
theorem l85_2 {call : CL} {n : Nat} : d85_2 call n = S85_2 call n := by
  funext kn kx y0 y1 y2 y3 m
  have h : d85_2 call n kn kx y0 y1 y2 y3 m = G85_2 call n kn kx (d85_1 call n kn kx) y0 y1 y2 y3 m := Eq.mp (by kernel_rfl) (g85_2 call n kn kx b85_1 y0 y1 y2 y3 m)
  rw [l85_1] at h; exact h
def G85 (call : CL) (n : Nat) (m0 : Mem) (B85_2 : KN → KX → Y4) (y0 y1 : AV) (m : Mem) : Rho :=
  loadK none y1 m fun a0 m1 =>
  vK (aLen m1 1 a0) m1 fun a2 m3 =>
  loopV [0, 5, 6, 7] none (fun vs m kn kx => unc vs fun x0 vs => unc vs fun x1 vs => unc vs fun x2 vs => unc vs fun x3 vs => unz vs (B85_2 kn kx x0 x1 x2 x3 m)) (blkK 0 (fun e m => endK f85 m0 .nrm e m) (endK f85 m0)) n [y0, a0, a2, (.int .i64 0)] m3
theorem g85 (call : CL) (n : Nat) (m0 : Mem) (b85_2 : C) (y0 y1 : AV) (m : Mem) : evK call n (c85 b85_2) [(0, y0), (1, y1)] m (fun e m => endK f85 m0 .nrm e m) (endK f85 m0) = G85 call n m0 (fun kn kx x0 x1 x2 x3 m => evK call n b85_2 [(0, x0), (5, x1), (6, x2), (7, x3)] m kn kx) y0 y1 m := by kernel_rfl
def S85 (call : CL) (n : Nat) (m0 : Mem) (y0 y1 : AV) : Rho := G85 call n m0 (S85_2 call n) y0 y1 { m0 with bad := none }
theorem s85 (call : CL) (n : Nat) (m0 : Mem) (y0 y1 : AV) : bodyK call n f85 [y0, y1] m0 = S85 call n m0 y0 y1 :=
  have h : bodyK call n f85 [y0, y1] m0 = G85 call n m0 (d85_2 call n) y0 y1 { m0 with bad := none } := Eq.mp (by kernel_rfl) (g85 call n m0 b85_2 y0 y1 { m0 with bad := none })
  by rw [l85_2] at h; exact h
def F85 : SF := fun call n vs m0 => unc vs fun x0 vs => unc vs fun x1 vs => unz vs (S85 call n m0 x0 x1)
theorem F85_ok {orc : List AV → Mem → Option (AV × Mem)} : SOk 85 { f85 with orc := orc } F85 := by
  intro call n vs m0 ho r h0
  simp only [F85] at h0
  obtain ⟨y0, v0, rfl, h1⟩ := unc_some h0
  obtain ⟨y1, v1, rfl, h2⟩ := unc_some h1
  obtain ⟨rfl, hz⟩ := unz_some h2
  exact bodyK_le ho rfl r (Eq.mp (by kernel_rfl) ((s85 call n m0 y0 y1).trans hz))

-- slices.AppendSeq[[][2]int,[2]int]
def G86_2 (call : CL) (n : Nat) (m0 : Mem) (y0 : AV) (m : Mem) : Rho :=
  loadK none y0 m fun a0 m1 =>
  retK false false m0 [a0] m1
theorem g86_2 (call : CL) (n : Nat) (m0 : Mem) (y0 : AV) (m : Mem) : evK call n b86_2 [(2, y0)] m (fun e m => endK f86 m0 .nrm e m) (endK f86 m0) = G86_2 call n m0 y0 m := by kernel_rfl
def k86_2 (call : CL) (n : Nat) (m0 : Mem) : KN := (fun e m => endK f86 m0 .nrm e m)
def x86_2 (call : CL) (n : Nat) (m0 : Mem) : KX := (endK f86 m0)
def S86_2 (call : CL) (n : Nat) (m0 : Mem) (y0 : AV) (m : Mem) : Rho := G86_2 call n m0 y0 m
def d86_2 (call : CL) (n : Nat) (m0 : Mem) (y0 : AV) (m : Mem) : Rho := evK call n b86_2 [(2, y0)] m (k86_2 call n m0) (x86_2 call n m0)
theorem l86_2 {call : CL} {n : Nat} {m0 : Mem} : d86_2 call n m0 = S86_2 call n m0 := by
  funext y0 m
  have h : d86_2 call n m0 y0 m = G86_2 call n m0 y0 m := Eq.mp (by kernel_rfl) (g86_2 call n m0 y0 m)
  exact h
def G86_0 (call : CL) (n : Nat) (kn : KN) (kx : KX) (y0 y1 y2 : AV) (m : Mem) : Rho :=
  newK [(.int .i64 0), (.int .i64 0)] m fun a0 m1 =>
  storeK 2 a0 y0 m1 fun a2 m3 =>
  kn [(2, y1), (5, a0)] m3
theorem g86_0 (call : CL) (n : Nat) (kn : KN) (kx : KX) (y0 y1 y2 : AV) (m : Mem) : evK call n b86_0 [(7, y0), (2, y1), (4, y2)] m kn kx = G86_0 call n kn kx y0 y1 y2 m := by kernel_rfl
def S86_0 (call : CL) (n : Nat) (kn : KN) (kx : KX) (y0 y1 y2 : AV) (m : Mem) : Rho := G86_0 call n kn kx y0 y1 y2 m
def d86_0 (call : CL) (n : Nat) (kn : KN) (kx : KX) (y0 y1 y2 : AV) (m : Mem) : Rho := evK call n b86_0 [(7, y0), (2, y1), (4, y2)] m kn kx
theorem l86_0 {call : CL} {n : Nat} : d86_0 call n = S86_0 call n := by
  funext kn kx y0 y1 y2 m
  have h : d86_0 call n kn kx y0 y1 y2 m = G86_0 call n kn kx y0 y1 y2 m := Eq.mp (by kernel_rfl) (g86_0 call n kn kx y0 y1 y2 m)
  exact h
def G86_1 (call : CL) (n : Nat) (kn : KN) (kx : KX) (y0 y1 : AV) (m : Mem) : Rho :=
  loadK none y0 m fun a0 m1 =>
  loadK (some 2) y1 m1 fun a2 m3 =>
  buildSliceK 2 [(.int .i64 0), (.int .i64 0)] 1 false [(0 * 2, 2, AV.untag a2)] m3 fun a4 m5 =>
  appendK 2 16 1 a0 a4 m5 fun a6 m7 =>
  storeK 1 y0 a6 m7 fun a8 m9 =>
  kn [] m9
theorem g86_1 (call : CL) (n : Nat) (kn : KN) (kx : KX) (y0 y1 : AV) (m : Mem) : evK call n b86_1 [(2, y0), (5, y1)] m kn kx = G86_1 call n kn kx y0 y1 m := by kernel_rfl
def S86_1 (call : CL) (n : Nat) (kn : KN) (kx : KX) (y0 y1 : AV) (m : Mem) : Rho := G86_1 call n kn kx y0 y1 m
def d86_1 (call : CL) (n : Nat) (kn : KN) (kx : KX) (y0 y1 : AV) (m : Mem) : Rho := evK call n b86_1 [(2, y0), (5, y1)] m kn kx
theorem l86_1 {call : CL} {n : Nat} : d86_1 call n = S86_1 call n := by
  funext kn kx y0 y1 m
  have h : d86_1 call n kn kx y0 y1 m = G86_1 call n kn kx y0 y1 m := Eq.mp (by kernel_rfl) (g86_1 call n kn kx y0 y1 m)
  exact h
def G86 (call : CL) (n : Nat) (m0 : Mem) (Q86_2 : Y1) (y0 y1 : AV) (m : Mem) : Rho :=
  boxK y0 m fun a0 m1 =>
  rangeK call y1 [7] b86_0 b86_1 [(2, a0), (4, (.list .full 2 []))] m1 (fun e m => keepK e [2] fun vs => unc vs fun x0 vs => unz vs (Q86_2 x0 m)) (blkK 0 (fun e m => keepK e [2] fun vs => unc vs fun x0 vs => unz vs (Q86_2 x0 m)) (endK f86 m0))
theorem g86 (call : CL) (n : Nat) (m0 : Mem) (b86_2 : C) (y0 y1 : AV) (m : Mem) : evK call n (c86 b86_0 b86_1 b86_2) [(0, y0), (1, y1)] m (fun e m => endK f86 m0 .nrm e m) (endK f86 m0) = G86 call n m0 (fun x0 m => evK call n b86_2 [(2, x0)] m (fun e m => endK f86 m0 .nrm e m) (endK f86 m0)) y0 y1 m := by kernel_rfl
def S86 (call : CL) (n : Nat) (m0 : Mem) (y0 y1 : AV) : Rho := G86 call n m0 (S86_2 call n m0) y0 y1 { m0 with bad := none }
theorem s86 (call : CL) (n : Nat) (m0 : Mem) (y0 y1 : AV) : bodyK call n f86 [y0, y1] m0 = S86 call n m0 y0 y1 :=
  have h : bodyK call n f86 [y0, y1] m0 = G86 call n m0 (d86_2 call n m0) y0 y1 { m0 with bad := none } := Eq.mp (by kernel_rfl) (g86 call n m0 b86_2 y0 y1 { m0 with bad := none })
  by rw [l86_2] at h; exact h
def F86 : SF := fun call n vs m0 => unc vs fun x0 vs => unc vs fun x1 vs => unz vs (S86 call n m0 x0 x1)
theorem F86_ok {orc : List AV → Mem → Option (AV × Mem)} : SOk 86 { f86 with orc := orc } F86 := by
  intro call n vs m0 ho r h0
  simp only [F86] at h0
  obtain ⟨y0, v0, rfl, h1⟩ := unc_some h0
  obtain ⟨y1, v1, rfl, h2⟩ := unc_some h1
  obtain ⟨rfl, hz⟩ := unz_some h2
  exact bodyK_le ho rfl r (Eq.mp (by kernel_rfl) ((s86 call n m0 y0 y1).trans hz))

-- cmp.isNaN[int]
def G88 (call : CL) (n : Nat) (m0 : Mem) (y0 : AV) (m : Mem) : Rho :=
  binK .neq y0 y0 fun a0 =>
  retK false false m0 [a0] m
theorem g88 (call : CL) (n : Nat) (m0 : Mem) (y0 : AV) (m : Mem) : evK call n b88 [(0, y0)] m (fun e m => endK f88 m0 .nrm e m) (endK f88 m0) = G88 call n m0 y0 m := by kernel_rfl
def S88 (call : CL) (n : Nat) (m0 : Mem) (y0 : AV) : Rho := G88 call n m0 y0 { m0 with bad := none }
theorem s88 (call : CL) (n : Nat) (m0 : Mem) (y0 : AV) : bodyK call n f88 [y0] m0 = S88 call n m0 y0 :=
  have h : bodyK call n f88 [y0] m0 = G88 call n m0 y0 { m0 with bad := none } := Eq.mp (by kernel_rfl) (g88 call n m0 y0 { m0 with bad := none })
  h
def F88 : SF := fun call n vs m0 => unc vs fun x0 vs => unz vs (S88 call n m0 x0)
theorem F88_ok {orc : List AV → Mem → Option (AV × Mem)} : SOk 88 { f88 with orc := orc } F88 := by
  intro call n vs m0 ho r h0
  simp only [F88] at h0
  obtain ⟨y0, v0, rfl, h1⟩ := unc_some h0
  obtain ⟨rfl, hz⟩ := unz_some h1
  exact bodyK_le ho rfl r (Eq.mp (by kernel_rfl) ((s88 call n m0 y0).trans hz))

-- slices.IndexFunc[[][2]int,[2]int]
def G90_3 (call : CL) (n : Nat) (m0 : Mem) (m : Mem) : Rho :=
  retK false false m0 [(.int .i64 (-1))] m
theorem g90_3 (call : CL) (n : Nat) (m0 : Mem) (m : Mem) : evK call n b90_3 [] m (fun e m => endK f90 m0 .nrm e m) (endK f90 m0) = G90_3 call n m0 m := by kernel_rfl
def k90_3 (call : CL) (n : Nat) (m0 : Mem) : KN := (fun e m => endK f90 m0 .nrm e m)
def x90_3 (call : CL) (n : Nat) (m0 : Mem) : KX := (endK f90 m0)
def S90_3 (call : CL) (n : Nat) (m0 : Mem) (m : Mem) : Rho := G90_3 call n m0 m
def d90_3 (call : CL) (n : Nat) (m0 : Mem) (m : Mem) : Rho := evK call n b90_3 [] m (k90_3 call n m0) (x90_3 call n m0)
theorem l90_3 {call : CL} {n : Nat} {m0 : Mem} : d90_3 call n m0 = S90_3 call n m0 := by
  funext m
  have h : d90_3 call n m0 m = G90_3 call n m0 m := Eq.mp (by kernel_rfl) (g90_3 call n m0 m)
  exact h
def G90_0 (call : CL) (n : Nat) (kn : KN) (kx : KX) (y0 y1 y2 y3 : AV) (m : Mem) : Rho :=
  binK .add y3 (.int .i64 1) fun a0 =>
  kn [(0, y0), (1, y1), (7, y2), (8, a0)] m
theorem g90_0 (call : CL) (n : Nat) (kn : KN) (kx : KX) (y0 y1 y2 y3 : AV) (m : Mem) : evK call n b90_0 [(0, y0), (1, y1), (7, y2), (8, y3)] m kn kx = G90_0 call n kn kx y0 y1 y2 y3 m := by kernel_rfl
def k90_0 (call : CL) (n : Nat) (kn : KN) (kx : KX) : KN := kn
def x90_0 (call : CL) (n : Nat) (kn : KN) (kx : KX) : KX := kx
def S90_0 (call : CL) (n : Nat) (kn : KN) (kx : KX) (y0 y1 y2 y3 : AV) (m : Mem) : Rho := G90_0 call n kn kx y0 y1 y2 y3 m
def d90_0 (call : CL) (n : Nat) (kn : KN) (kx : KX) (y0 y1 y2 y3 : AV) (m : Mem) : Rho := evK call n b90_0 [(0, y0), (1, y1), (7, y2), (8, y3)] m (k90_0 call n kn kx) (x90_0 call n kn kx)
theorem l90_0 {call : CL} {n : Nat} {kn : KN} {kx : KX} : d90_0 call n kn kx = S90_0 call n kn kx := by
  funext y0 y1 y2 y3 m
  have h : d90_0 call n kn kx y0 y1 y2 y3 m = G90_0 call n kn kx y0 y1 y2 y3 m := Eq.mp (by kernel_rfl) (g90_0 call n kn kx y0 y1 y2 y3 m)
  exact h
def G90_1 (call : CL) (n : Nat) (kn : KN) (kx : KX) (Q90_0 : Y4) (y0 y1 y2 y3 : AV) (m : Mem) : Rho :=
  vK (aIndexAddr m 2 y0 y3) m fun a0 m1 =>
  loadK (some 2) a0 m1 fun a2 m3 =>
  callK call y1 false [a2] m3 fun a4 m5 =>
  condK a4
  (kx .ret [(4, y3)] m5)
  (Q90_0 y0 y1 y2 y3 m5)
theorem g90_1 (call : CL) (n : Nat) (kn : KN) (kx : KX) (b90_0 : C) (y0 y1 y2 y3 : AV) (m : Mem) : evK call n (c90_1 b90_0) [(0, y0), (1, y1), (7, y2), (8, y3)] m kn kx = G90_1 call n kn kx (fun x0 x1 x2 x3 m => evK call n b90_0 [(0, x0), (1, x1), (7, x2), (8, x3)] m kn kx) y0 y1 y2 y3 m := by kernel_rfl
def k90_1 (call : CL) (n : Nat) (kn : KN) (kx : KX) : KN := kn
def x90_1 (call : CL) (n : Nat) (kn : KN) (kx : KX) : KX := kx
def S90_1 (call : CL) (n : Nat) (kn : KN) (kx : KX) (y0 y1 y2 y3 : AV) (m : Mem) : Rho := G90_1 call n kn kx (S90_0 call n kn kx) y0 y1 y2 y3 m
def d90_1 (call : CL) (n : Nat) (kn : KN) (kx : KX) (y0 y1 y2 y3 : AV) (m : Mem) : Rho := evK call n b90_1 [(0, y0), (1, y1), (7, y2), (8, y3)] m (k90_1 call n kn kx) (x90_1 call n kn kx)
theorem l90_1 {call : CL} {n : Nat} {kn : KN} {kx : KX} : d90_1 call n kn kx = S90_1 call n kn kx := by
  funext y0 y1 y2 y3 m
  have h : d90_1 call n kn kx y0 y1 y2 y3 m = G90_1 call n kn kx (d90_0 call n kn kx) y0 y1 y2 y3 m := Eq.mp (by kernel_rfl) (g90_1 call n kn kx b90_0 y0 y1 y2 y3 m)
  rw [l90_0] at h; exact h
def G90_2 (call : CL) (n : Nat) (kn : KN) (kx : KX) (Q90_1 : Y4) (y0 y1 y2 y3 : AV) (m : Mem) : Rho :=
  binK .lss y3 y2 fun a0 =>
  condK a0
  (Q90_1 y0 y1 y2 y3 m)
  (kx (.ext 0) [(0, y0), (1, y1), (7, y2), (8, y3), (9, a0)] m)
theorem g90_2 (call : CL) (n : Nat) (kn : KN) (kx : KX) (b90_1 : C) (y0 y1 y2 y3 : AV) (m : Mem) : evK call n (c90_2 b90_1) [(0, y0), (1, y1), (7, y2), (8, y3)] m kn kx = G90_2 call n kn kx (fun x0 x1 x2 x3 m => evK call n b90_1 [(0, x0), (1, x1), (7, x2), (8, x3)] m kn kx) y0 y1 y2 y3 m := by kernel_rfl
def S90_2 (call : CL) (n : Nat) (kn : KN) (kx : KX) (y0 y1 y2 y3 : AV) (m : Mem) : Rho := G90_2 call n kn kx (S90_1 call n kn kx) y0 y1 y2 y3 m
def d90_2 (call : CL) (n : Nat) (kn : KN) (kx : KX) (y0 y1 y2 y3 : AV) (m : Mem) : Rho := evK call n b90_2 [(0, y0), (1, y1), (7, y2), (8, y3)] m kn kx
theorem l90_2 {call : CL} {n : Nat} : d90_2 call n = S90_2 call n := by
  funext kn kx y0 y1 y2 y3 m
  have h : d90_2 call n kn kx y0 y1 y2 y3 m = G90_2 call n kn kx (d90_1 call n kn kx) y0 y1 y2 y3 m := Eq.mp (by kernel_rfl) (g90_2 call n kn kx b90_1 y0 y1 y2 y3 m)
  rw [l90_1] at h; exact h
def G90 (call : CL) (n : Nat) (m0 : Mem) (B90_2 : KN → KX → Y4) (Q90_3 : Y0) (y0 y1 : AV) (m : Mem) : Rho :=
  vK (aLen m 1 y0) m fun a0 m1 =>
  loopV [0, 1, 7, 8] none (fun vs m kn kx => unc vs fun x0 vs => unc vs fun x1 vs => unc vs fun x2 vs => unc vs fun x3 vs => unz vs (B90_2 kn kx x0 x1 x2 x3 m)) (blkK 0 (fun e m => keepK e [] fun vs => unz vs (Q90_3 m)) (endK f90 m0)) n [y0, y1, a0, (.int .i64 0)] m1
theorem g90 (call : CL) (n : Nat) (m0 : Mem) (b90_2 : C) (b90_3 : C) (y0 y1 : AV) (m : Mem) : evK call n (c90 b90_2 b90_3) [(0, y0), (1, y1)] m (fun e m => endK f90 m0 .nrm e m) (endK f90 m0) = G90 call n m0 (fun kn kx x0 x1 x2 x3 m => evK call n b90_2 [(0, x0), (1, x1), (7, x2), (8, x3)] m kn kx) (fun m => evK call n b90_3 [] m (fun e m => endK f90 m0 .nrm e m) (endK f90 m0)) y0 y1 m := by kernel_rfl
def S90 (call : CL) (n : Nat) (m0 : Mem) (y0 y1 : AV) : Rho := G90 call n m0 (S90_2 call n) (S90_3 call n m0) y0 y1 { m0 with bad := none }
theorem s90 (call : CL) (n : Nat) (m0 : Mem) (y0 y1 : AV) : bodyK call n f90 [y0, y1] m0 = S90 call n m0 y0 y1 :=
  have h : bodyK call n f90 [y0, y1] m0 = G90 call n m0 (d90_2 call n) (d90_3 call n m0) y0 y1 { m0 with bad := none } := Eq.mp (by kernel_rfl) (g90 call n m0 b90_2 b90_3 y0 y1 { m0 with bad := none })
  by rw [l90_2, l90_3] at h; exact h
def F90 : SF := fun call n vs m0 => unc vs fun x0 vs => unc vs fun x1 vs => unz vs (S90 call n m0 x0 x1)
theorem F90_ok {orc : List AV → Mem → Option (AV × Mem)} : SOk 90 { f90 with orc := orc } F90 := by
  intro call n vs m0 ho r h0
  simp only [F90] at h0
  obtain ⟨y0, v0, rfl, h1⟩ := unc_some h0
  obtain ⟨y1, v1, rfl, h2⟩ := unc_some h1
  obtain ⟨rfl, hz⟩ := unz_some h2
  exact bodyK_le ho rfl r (Eq.mp (by kernel_rfl) ((s90 call n m0 y0 y1).trans hz))

-- slices.IndexFunc[[]int,int]
def G91_3 (call : CL) (n : Nat) (m0 : Mem) (m : Mem) : Rho :=
  retK false false m0 [(.int .i64 (-1))] m
theorem g91_3 (call : CL) (n : Nat) (m0 : Mem) (m : Mem) : evK call n b91_3 [] m (fun e m => endK f91 m0 .nrm e m) (endK f91 m0) = G91_3 call n m0 m := by kernel_rfl
def k91_3 (call : CL) (n : Nat) (m0 : Mem) : KN := (fun e m => endK f91 m0 .nrm e m)
def x91_3 (call : CL) (n : Nat) (m0 : Mem) : KX := (endK f91 m0)
def S91_3 (call : CL) (n : Nat) (m0 : Mem) (m : Mem) : Rho := G91_3 call n m0 m
def d91_3 (call : CL) (n : Nat) (m0 : Mem) (m : Mem) : Rho := evK call n b91_3 [] m (k91_3 call n m0) (x91_3 call n m0)
theorem l91_3 {call : CL} {n : Nat} {m0 : Mem} : d91_3 call n m0 = S91_3 call n m0 := by
  funext m
  have h : d91_3 call n m0 m = G91_3 call n m0 m := Eq.mp (by kernel_rfl) (g91_3 call n m0 m)
  exact h
def G91_0 (call : CL) (n : Nat) (kn : KN) (kx : KX) (y0 y1 y2 y3 : AV) (m : Mem) : Rho :=
  binK .add y3 (.int .i64 1) fun a0 =>
  kn [(0, y0), (1, y1), (7, y2), (8, a0)] m
theorem g91_0 (call : CL) (n : Nat) (kn : KN) (kx : KX) (y0 y1 y2 y3 : AV) (m : Mem) : evK call n b91_0 [(0, y0), (1, y1), (7, y2), (8, y3)] m kn kx = G91_0 call n kn kx y0 y1 y2 y3 m := by kernel_rfl
def k91_0 (call : CL) (n : Nat) (kn : KN) (kx : KX) : KN := kn
def x91_0 (call : CL) (n : Nat) (kn : KN) (kx : KX) : KX := kx
def S91_0 (call : CL) (n : Nat) (kn : KN) (kx : KX) (y0 y1 y2 y3 : AV) (m : Mem) : Rho := G91_0 call n kn kx y0 y1 y2 y3 m
def d91_0 (call : CL) (n : Nat) (kn : KN) (kx : KX) (y0 y1 y2 y3 : AV) (m : Mem) : Rho := evK call n b91_0 [(0, y0), (1, y1), (7, y2), (8, y3)] m (k91_0 call n kn kx) (x91_0 call n kn kx)
theorem l91_0 {call : CL} {n : Nat} {kn : KN} {kx : KX} : d91_0 call n kn kx = S91_0 call n kn kx := by
  funext y0 y1 y2 y3 m
  have h : d91_0 call n kn kx y0 y1 y2 y3 m = G91_0 call n kn kx y0 y1 y2 y3 m := Eq.mp (by kernel_rfl) (g91_0 call n kn kx y0 y1 y2 y3 m)
  exact h
def G91_1 (call : CL) (n : Nat) (kn : KN) (kx : KX) (Q91_0 : Y4) (y0 y1 y2 y3 : AV) (m : Mem) : Rho :=
  vK (aIndexAddr m 1 y0 y3) m fun a0 m1 =>
  loadK none a0 m1 fun a2 m3 =>
  callK call y1 false [a2] m3 fun a4 m5 =>
  condK a4
  (kx .ret [(4, y3)] m5)
  (Q91_0 y0 y1 y2 y3 m5)
theorem g91_1 (call : CL) (n : Nat) (kn : KN) (kx : KX) (b91_0 : C) (y0 y1 y2 y3 : AV) (m : Mem) : evK call n (c91_1 b91_0) [(0, y0), (1, y1), (7, y2), (8, y3)] m kn kx = G91_1 call n kn kx (fun x0 x1 x2 x3 m => evK call n b91_0 [(0, x0), (1, x1), (7, x2), (8, x3)] m kn kx) y0 y1 y2 y3 m := by kernel_rfl
def k91_1 (call : CL) (n : Nat) (kn : KN) (kx : KX) : KN := kn
def x91_1 (call : CL) (n : Nat) (kn : KN) (kx : KX) : KX := kx
def S91_1 (call : CL) (n : Nat) (kn : KN) (kx : KX) (y0 y1 y2 y3 : AV) (m : Mem) : Rho := G91_1 call n kn kx (S91_0 call n kn kx) y0 y1 y2 y3 m
def d91_1 (call : CL) (n : Nat) (kn : KN) (kx : KX) (y0 y1 y2 y3 : AV) (m : Mem) : Rho := evK call n b91_1 [(0, y0), (1, y1), (7, y2), (8, y3)] m (k91_1 call n kn kx) (x91_1 call n kn kx)
theorem l91_1 {call : CL} {n : Nat} {kn : KN} {kx : KX} : d91_1 call n kn kx = S91_1 call n kn kx := by
  funext y0 y1 y2 y3 m
  have h : d91_1 call n kn kx y0 y1 y2 y3 m = G91_1 call n kn kx (d91_0 call n kn kx) y0 y1 y2 y3 m := Eq.mp (by kernel_rfl) (g91_1 call n kn kx b91_0 y0 y1 y2 y3 m)
  rw [l91_0] at h; exact h
def G91_2 (call : CL) (n : Nat) (kn : KN) (kx : KX) (Q91_1 : Y4) (y0 y1 y2 y3 : AV) (m : Mem) : Rho :=
  binK .lss y3 y2 fun a0 =>
  condK a0
  (Q91_1 y0 y1 y2 y3 m)
  (kx (.ext 0) [(0, y0), (1, y1), (7, y2), (8, y3), (9, a0)] m)
theorem g91_2 (call : CL) (n : Nat) (kn : KN) (kx : KX) (b91_1 : C) (y0 y1 y2 y3 : AV) (m : Mem) : evK call n (c91_2 b91_1) [(0, y0), (1, y1), (7, y2), (8, y3)] m kn kx = G91_2 call n kn kx (fun x0 x1 x2 x3 m => evK call n b91_1 [(0, x0), (1, x1), (7, x2), (8, x3)] m kn kx) y0 y1 y2 y3 m := by kernel_rfl
def S91_2 (call : CL) (n : Nat) (kn : KN) (kx : KX) (y0 y1 y2 y3 : AV) (m : Mem) : Rho := G91_2 call n kn kx (S91_1 call n kn kx) y0 y1 y2 y3 m
def d91_2 (call : CL) (n : Nat) (kn : KN) (kx : KX) (y0 y1 y2 y3 : AV) (m : Mem) : Rho := evK call n b91_2 [(0, y0), (1, y1), (7, y2), (8, y3)] m kn kx
theorem l91_2 {call : CL} {n : Nat} : d91_2 call n = S91_2 call n := by
  funext kn kx y0 y1 y2 y3 m
  have h : d91_2 call n kn kx y0 y1 y2 y3 m = G91_2 call n kn kx (d91_1 call n kn kx) y0 y1 y2 y3 m := Eq.mp (by kernel_rfl) (g91_2 call n kn kx b91_1 y0 y1 y2 y3 m)
  rw [l91_1] at h; exact h
def G91 (call : CL) (n : Nat) (m0 : Mem) (B91_2 : KN → KX → Y4) (Q91_3 : Y0) (y0 y1 : AV) (m : Mem) : Rho :=
  vK (aLen m 1 y0) m fun a0 m1 =>
  loopV [0, 1, 7, 8] none (fun vs m kn kx => unc vs fun x0 vs => unc vs fun x1 vs => unc vs fun x2 vs => unc vs fun x3 vs => unz vs (B91_2 kn kx x0 x1 x2 x3 m)) (blkK 0 (fun e m => keepK e [] fun vs => unz vs (Q91_3 m)) (endK f91 m0)) n [y0, y1, a0, (.int .i64 0)] m1
theorem g91 (call : CL) (n : Nat) (m0 : Mem) (b91_2 : C) (b91_3 : C) (y0 y1 : AV) (m : Mem) : evK call n (c91 b91_2 b91_3) [(0, y0), (1, y1)] m (fun e m => endK f91 m0 .nrm e m) (endK f91 m0) = G91 call n m0 (fun kn kx x0 x1 x2 x3 m => evK call n b91_2 [(0, x0), (1, x1), (7, x2), (8, x3)] m kn kx) (fun m => evK call n b91_3 [] m (fun e m => endK f91 m0 .nrm e m) (endK f91 m0)) y0 y1 m := by kernel_rfl
def S91 (call : CL) (n : Nat) (m0 : Mem) (y0 y1 : AV) : Rho := G91 call n m0 (S91_2 call n) (S91_3 call n m0) y0 y1 { m0 with bad := none }
theorem s91 (call : CL) (n : Nat) (m0 : Mem) (y0 y1 : AV) : bodyK call n f91 [y0, y1] m0 = S91 call n m0 y0 y1 :=
  have h : bodyK call n f91 [y0, y1] m0 = G91 call n m0 (d91_2 call n) (d91_3 call n m0) y0 y1 { m0 with bad := none } := Eq.mp (by kernel_rfl) (g91 call n m0 b91_2 b91_3 y0 y1 { m0 with bad := none })
  by rw [l91_2, l91_3] at h; exact h
def F91 : SF := fun call n vs m0 => unc vs fun x0 vs => unc vs fun x1 vs => unz vs (S91 call n m0 x0 x1)
theorem F91_ok {orc : List AV → Mem → Option (AV × Mem)} : SOk 91 { f91 with orc := orc } F91 := by
  intro call n vs m0 ho r h0
  simp only [F91] at h0
  obtain ⟨y0, v0, rfl, h1⟩ := unc_some h0
  obtain ⟨y1, v1, rfl, h2⟩ := unc_some h1
  obtain ⟨rfl, hz⟩ := unz_some h2
  exact bodyK_le ho rfl r (Eq.mp (by kernel_rfl) ((s91 call n m0 y0 y1).trans hz))

end
end Go.Proofs.P17
