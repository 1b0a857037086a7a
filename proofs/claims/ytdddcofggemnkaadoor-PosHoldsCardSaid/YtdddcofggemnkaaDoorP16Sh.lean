
import Derived.Test.YtdddcofggemnkaaDoorP16ShA
namespace Go.Proofs.P16
set_option linter.all false
open Go Go.Am
noncomputable section
-- resolvent/pos.Exists
def G18_0 (call : CL) (n : Nat) (m0 : Mem) (y0 y1 y2 : AV) (m : Mem) : Rho :=
  callK call (.func 26 [] []) false [] m fun a0 m1 =>
  loadK (some 2) y1 m1 fun a2 m3 =>
  callK call (.func 28 [] []) false [a0, a2] m3 fun a4 m5 =>
  callK call (.func 38 [] []) false [a0, a4, y0, (.bool false)] m5 fun a6 m7 =>
  callK call (.func 38 [] []) false [a0, a4, y0, (.bool true)] m7 fun a8 m9 =>
  callK call (.func 27 [] []) false [a0, a6, a8, (.func 31 [] [])] m9 fun a10 m11 =>
  callK call (.func 36 [] []) false [a0, a10] m11 fun a12 m13 =>
  storeK 2 y2 a12 m13 fun a14 m15 =>
  loadK (some 2) y2 m15 fun a16 _ =>
  retK false false m0 [a16] m15
theorem g18_0 (call : CL) (n : Nat) (m0 : Mem) (y0 y1 y2 : AV) (m : Mem) : evK call n b18_0 [(1, y0), (2, y1), (4, y2)] m (fun e m => endK f18 m0 .nrm e m) (endK f18 m0) = G18_0 call n m0 y0 y1 y2 m := by kernel_rfl
def k18_0 (call : CL) (n : Nat) (m0 : Mem) : KN := (fun e m => endK f18 m0 .nrm e m)
def x18_0 (call : CL) (n : Nat) (m0 : Mem) : KX := (endK f18 m0)
def S18_0 (call : CL) (n : Nat) (m0 : Mem) (y0 y1 y2 : AV) (m : Mem) : Rho := G18_0 call n m0 y0 y1 y2 m
def d18_0 (call : CL) (n : Nat) (m0 : Mem) (y0 y1 y2 : AV) (m : Mem) : Rho := evK call n b18_0 [(1, y0), (2, y1), (4, y2)] m (k18_0 call n m0) (x18_0 call n m0)
theorem l18_0 {call : CL} {n : Nat} {m0 : Mem} : d18_0 call n m0 = S18_0 call n m0 := by
  funext y0 y1 y2 m
  have h : d18_0 call n m0 y0 y1 y2 m = G18_0 call n m0 y0 y1 y2 m := Eq.mp (by kernel_rfl) (g18_0 call n m0 y0 y1 y2 m)
  exact h
def G18 (call : CL) (n : Nat) (m0 : Mem) (Q18_0 : Y3) (y0 y1 : AV) (m : Mem) : Rho :=
  boxK y0 m fun a0 m1 =>
  newK [(.list .full 0 []), (.bool false)] m1 fun a2 m3 =>
  binK .lss y1 (.int .i64 0) fun a4 =>
  condK a4
  (loadK (some 2) a0 m3 fun a5 m6 =>
  storeK 2 a2 a5 m6 fun a7 m8 =>
  loadK (some 2) a2 m8 fun a9 _ =>
  retK false false m0 [a9] m8)
  (Q18_0 y1 a0 a2 m3)
theorem g18 (call : CL) (n : Nat) (m0 : Mem) (b18_0 : C) (y0 y1 : AV) (m : Mem) : evK call n (c18 b18_0) [(0, y0), (1, y1)] m (fun e m => endK f18 m0 .nrm e m) (endK f18 m0) = G18 call n m0 (fun x0 x1 x2 m => evK call n b18_0 [(1, x0), (2, x1), (4, x2)] m (fun e m => endK f18 m0 .nrm e m) (endK f18 m0)) y0 y1 m := by kernel_rfl
def S18 (call : CL) (n : Nat) (m0 : Mem) (y0 y1 : AV) : Rho := G18 call n m0 (S18_0 call n m0) y0 y1 { m0 with bad := none }
theorem s18 (call : CL) (n : Nat) (m0 : Mem) (y0 y1 : AV) : bodyK call n f18 [y0, y1] m0 = S18 call n m0 y0 y1 :=
  have h : bodyK call n f18 [y0, y1] m0 = G18 call n m0 (d18_0 call n m0) y0 y1 { m0 with bad := none } := Eq.mp (by kernel_rfl) (g18 call n m0 b18_0 y0 y1 { m0 with bad := none })
  by rw [l18_0] at h; exact h
def F18 : SF := fun call n vs m0 => unc vs fun x0 vs => unc vs fun x1 vs => unz vs (S18 call n m0 x0 x1)
theorem F18_ok {orc : List AV → Mem → Option (AV × Mem)} : SOk 18 { f18 with orc := orc } F18 := by
  intro call n vs m0 ho r h0
  simp only [F18] at h0
  obtain ⟨y0, v0, rfl, h1⟩ := unc_some h0
  obtain ⟨y1, v1, rfl, h2⟩ := unc_some h1
  obtain ⟨rfl, hz⟩ := unz_some h2
  exact bodyK_le ho rfl r (Eq.mp (by kernel_rfl) ((s18 call n m0 y0 y1).trans hz))

-- resolvent/pos.Rename
def G19_7 (call : CL) (n : Nat) (m0 : Mem) (y0 y1 y2 : AV) (m : Mem) : Rho :=
  vK (aLen m 1 y2) m fun a0 m1 =>
  binK .sub a0 (.int .i64 1) fun a2 =>
  vK (aIndexAddr m1 1 y2 a2) m1 fun a3 m4 =>
  loadK none a3 m4 fun a5 m6 =>
  callK call (.func 36 [] []) false [y1, a5] m6 fun a7 m8 =>
  storeK 2 y0 a7 m8 fun a9 m10 =>
  loadK (some 2) y0 m10 fun a11 _ =>
  retK false false m0 [a11] m10
theorem g19_7 (call : CL) (n : Nat) (m0 : Mem) (y0 y1 y2 : AV) (m : Mem) : evK call n b19_7 [(4, y0), (8, y1), (9, y2)] m (fun e m => endK f19 m0 .nrm e m) (endK f19 m0) = G19_7 call n m0 y0 y1 y2 m := by kernel_rfl
def k19_7 (call : CL) (n : Nat) (m0 : Mem) : KN := (fun e m => endK f19 m0 .nrm e m)
def x19_7 (call : CL) (n : Nat) (m0 : Mem) : KX := (endK f19 m0)
def S19_7 (call : CL) (n : Nat) (m0 : Mem) (y0 y1 y2 : AV) (m : Mem) : Rho := G19_7 call n m0 y0 y1 y2 m
def d19_7 (call : CL) (n : Nat) (m0 : Mem) (y0 y1 y2 : AV) (m : Mem) : Rho := evK call n b19_7 [(4, y0), (8, y1), (9, y2)] m (k19_7 call n m0) (x19_7 call n m0)
theorem l19_7 {call : CL} {n : Nat} {m0 : Mem} : d19_7 call n m0 = S19_7 call n m0 := by
  funext y0 y1 y2 m
  have h : d19_7 call n m0 y0 y1 y2 m = G19_7 call n m0 y0 y1 y2 m := Eq.mp (by kernel_rfl) (g19_7 call n m0 y0 y1 y2 m)
  exact h
def G19_8 (call : CL) (n : Nat) (m0 : Mem) (Q19_7 : Y3) (y0 y1 y2 y3 : AV) (m : Mem) : Rho :=
  vK (aFieldAddr 0 1 y0) m fun a0 m1 =>
  loadK none a0 m1 fun a2 m3 =>
  vK (aLen m3 1 a2) m3 fun a4 m5 =>
  binK .eql a4 (.int .i64 0) fun a6 =>
  condK a6
  (loadK (some 2) y0 m5 fun a7 m8 =>
  storeK 2 y1 a7 m8 fun a9 m10 =>
  loadK (some 2) y1 m10 fun a11 _ =>
  retK false false m0 [a11] m10)
  (Q19_7 y1 y2 y3 m5)
theorem g19_8 (call : CL) (n : Nat) (m0 : Mem) (b19_7 : C) (y0 y1 y2 y3 : AV) (m : Mem) : evK call n (c19_8 b19_7) [(2, y0), (4, y1), (8, y2), (9, y3)] m (fun e m => endK f19 m0 .nrm e m) (endK f19 m0) = G19_8 call n m0 (fun x0 x1 x2 m => evK call n b19_7 [(4, x0), (8, x1), (9, x2)] m (fun e m => endK f19 m0 .nrm e m) (endK f19 m0)) y0 y1 y2 y3 m := by kernel_rfl
def k19_8 (call : CL) (n : Nat) (m0 : Mem) : KN := (fun e m => endK f19 m0 .nrm e m)
def x19_8 (call : CL) (n : Nat) (m0 : Mem) : KX := (endK f19 m0)
def S19_8 (call : CL) (n : Nat) (m0 : Mem) (y0 y1 y2 y3 : AV) (m : Mem) : Rho := G19_8 call n m0 (S19_7 call n m0) y0 y1 y2 y3 m
def d19_8 (call : CL) (n : Nat) (m0 : Mem) (y0 y1 y2 y3 : AV) (m : Mem) : Rho := evK call n b19_8 [(2, y0), (4, y1), (8, y2), (9, y3)] m (k19_8 call n m0) (x19_8 call n m0)
theorem l19_8 {call : CL} {n : Nat} {m0 : Mem} : d19_8 call n m0 = S19_8 call n m0 := by
  funext y0 y1 y2 y3 m
  have h : d19_8 call n m0 y0 y1 y2 y3 m = G19_8 call n m0 (d19_7 call n m0) y0 y1 y2 y3 m := Eq.mp (by kernel_rfl) (g19_8 call n m0 b19_7 y0 y1 y2 y3 m)
  rw [l19_7] at h; exact h
def G19_5 (call : CL) (n : Nat) (kn : KN) (kx : KX) (y0 y1 y2 y3 y4 y5 y6 y7 : AV) (m : Mem) : Rho :=
  vK (aIndexAddr m 3 y5 y7) m fun a0 m1 =>
  loadK (some 3) a0 m1 fun a2 m3 =>
  newK [(.int .i64 0), (.int .i64 0), (.int .i64 0)] m3 fun a4 m5 =>
  storeK 3 a4 a2 m5 fun a6 m7 =>
  vK (aFieldAddr 0 1 a4) m7 fun a8 m9 =>
  loadK none a8 m9 fun a10 m11 =>
  vK (aIndexAddr m11 1 y0 a10) m11 fun a12 m13 =>
  loadK none a12 m13 fun a14 m15 =>
  callK call (.func 14 [] []) false [a14] m15 fun a16 m17 =>
  callK call (.func 28 [] []) false [y3, a16] m17 fun a18 m19 =>
  vK (aFieldAddr 2 1 a4) m19 fun a20 m21 =>
  loadK none a20 m21 fun a22 m23 =>
  vK (aIndexAddr m23 1 y4 a22) m23 fun a24 m25 =>
  loadK none a24 m25 fun a26 m27 =>
  callK call (.func 27 [] []) false [y3, a18, a26, (.func 29 [] [])] m27 fun a28 m29 =>
  callK call (.func 30 [] []) false [y3, a18] m29 fun a30 m31 =>
  vK (aFieldAddr 1 1 a4) m31 fun a32 m33 =>
  loadK none a32 m33 fun a34 m35 =>
  vK (aIndexAddr m35 1 y4 a34) m35 fun a36 m37 =>
  loadK none a36 m37 fun a38 m39 =>
  callK call (.func 27 [] []) false [y3, a30, a38, (.func 29 [] [])] m39 fun a40 m41 =>
  cond (stayK [m29, m31, m41] [(fun m => m.load none a32, a34, 0, 2, true), (fun m => m.load none a36, a38, 0, 2, true)]) (callK call (.func 27 [] []) false [y3, a28, a40, (.func 31 [] [])] m41 fun a42 m43 =>
  buildSliceK 1 [(.int .i64 0)] 1 false [(0 * 1, 1, AV.untag a42)] m43 fun a44 m45 =>
  appendK 1 8 0 y4 a44 m45 fun a46 m47 =>
  binK .add y7 (.int .i64 1) fun a48 =>
  kn [(1, y0), (2, y1), (4, y2), (8, y3), (9, a46), (52, y5), (53, y6), (54, a48)] m47) none
theorem g19_5 (call : CL) (n : Nat) (kn : KN) (kx : KX) (y0 y1 y2 y3 y4 y5 y6 y7 : AV) (m : Mem) : evK call n b19_5 [(1, y0), (2, y1), (4, y2), (8, y3), (9, y4), (52, y5), (53, y6), (54, y7)] m kn kx = G19_5 call n kn kx y0 y1 y2 y3 y4 y5 y6 y7 m := by kernel_rfl
def k19_5 (call : CL) (n : Nat) (kn : KN) (kx : KX) : KN := kn
def x19_5 (call : CL) (n : Nat) (kn : KN) (kx : KX) : KX := kx
def S19_5 (call : CL) (n : Nat) (kn : KN) (kx : KX) (y0 y1 y2 y3 y4 y5 y6 y7 : AV) (m : Mem) : Rho := G19_5 call n kn kx y0 y1 y2 y3 y4 y5 y6 y7 m
def d19_5 (call : CL) (n : Nat) (kn : KN) (kx : KX) (y0 y1 y2 y3 y4 y5 y6 y7 : AV) (m : Mem) : Rho := evK call n b19_5 [(1, y0), (2, y1), (4, y2), (8, y3), (9, y4), (52, y5), (53, y6), (54, y7)] m (k19_5 call n kn kx) (x19_5 call n kn kx)
theorem l19_5 {call : CL} {n : Nat} {kn : KN} {kx : KX} : d19_5 call n kn kx = S19_5 call n kn kx := by
  funext y0 y1 y2 y3 y4 y5 y6 y7 m
  have h : d19_5 call n kn kx y0 y1 y2 y3 y4 y5 y6 y7 m = G19_5 call n kn kx y0 y1 y2 y3 y4 y5 y6 y7 m := Eq.mp (by kernel_rfl) (g19_5 call n kn kx y0 y1 y2 y3 y4 y5 y6 y7 m)
  exact h
def G19_6 (call : CL) (n : Nat) (kn : KN) (kx : KX) (Q19_5 : Y8) (y0 y1 y2 y3 y4 y5 y6 y7 : AV) (m : Mem) : Rho :=
  binK .lss y7 y6 fun a0 =>
  condK a0
  (Q19_5 y0 y1 y2 y3 y4 y5 y6 y7 m)
  (kx (.ext 2) [(1, y0), (2, y1), (4, y2), (8, y3), (9, y4), (52, y5), (53, y6), (54, y7), (55, a0)] m)
theorem g19_6 (call : CL) (n : Nat) (kn : KN) (kx : KX) (b19_5 : C) (y0 y1 y2 y3 y4 y5 y6 y7 : AV) (m : Mem) : evK call n (c19_6 b19_5) [(1, y0), (2, y1), (4, y2), (8, y3), (9, y4), (52, y5), (53, y6), (54, y7)] m kn kx = G19_6 call n kn kx (fun x0 x1 x2 x3 x4 x5 x6 x7 m => evK call n b19_5 [(1, x0), (2, x1), (4, x2), (8, x3), (9, x4), (52, x5), (53, x6), (54, x7)] m kn kx) y0 y1 y2 y3 y4 y5 y6 y7 m := by kernel_rfl
def S19_6 (call : CL) (n : Nat) (kn : KN) (kx : KX) (y0 y1 y2 y3 y4 y5 y6 y7 : AV) (m : Mem) : Rho := G19_6 call n kn kx (S19_5 call n kn kx) y0 y1 y2 y3 y4 y5 y6 y7 m
def d19_6 (call : CL) (n : Nat) (kn : KN) (kx : KX) (y0 y1 y2 y3 y4 y5 y6 y7 : AV) (m : Mem) : Rho := evK call n b19_6 [(1, y0), (2, y1), (4, y2), (8, y3), (9, y4), (52, y5), (53, y6), (54, y7)] m kn kx
theorem l19_6 {call : CL} {n : Nat} : d19_6 call n = S19_6 call n := by
  funext kn kx y0 y1 y2 y3 y4 y5 y6 y7 m
  have h : d19_6 call n kn kx y0 y1 y2 y3 y4 y5 y6 y7 m = G19_6 call n kn kx (d19_5 call n kn kx) y0 y1 y2 y3 y4 y5 y6 y7 m := Eq.mp (by kernel_rfl) (g19_6 call n kn kx b19_5 y0 y1 y2 y3 y4 y5 y6 y7 m)
  rw [l19_5] at h; exact h
def G19_9 (call : CL) (n : Nat) (m0 : Mem) (B19_6 : KN → KX → Y8) (Q19_8 : Y4) (y0 y1 y2 : AV) (m : Mem) : Rho :=
  callK call (.func 26 [] []) false [] m fun a0 m1 =>
  buildSliceK 1 [(.int .i64 0)] 2 false [(0 * 1, 1, AV.untag (.int .i64 0)), (1 * 1, 1, AV.untag (.int .i64 1))] m1 fun a2 m3 =>
  vK (aFieldAddr 0 1 y1) m3 fun a4 m5 =>
  loadK none a4 m5 fun a6 m7 =>
  vK (aLen m7 1 a6) m7 fun a8 m9 =>
  loopV [1, 2, 4, 8, 9, 52, 53, 54] none (fun vs m kn kx => unc vs fun x0 vs => unc vs fun x1 vs => unc vs fun x2 vs => unc vs fun x3 vs => unc vs fun x4 vs => unc vs fun x5 vs => unc vs fun x6 vs => unc vs fun x7 vs => unz vs (B19_6 kn kx x0 x1 x2 x3 x4 x5 x6 x7 m)) (blkK 2 (fun e m => keepK e [2, 4, 8, 9] fun vs => unc vs fun x0 vs => unc vs fun x1 vs => unc vs fun x2 vs => unc vs fun x3 vs => unz vs (Q19_8 x0 x1 x2 x3 m)) (endK f19 m0)) n [y0, y1, y2, a0, a2, a6, a8, (.int .i64 0)] m9
theorem g19_9 (call : CL) (n : Nat) (m0 : Mem) (b19_6 : C) (b19_8 : C) (y0 y1 y2 : AV) (m : Mem) : evK call n (c19_9 b19_6 b19_8) [(1, y0), (2, y1), (4, y2)] m (fun e m => endK f19 m0 .nrm e m) (endK f19 m0) = G19_9 call n m0 (fun kn kx x0 x1 x2 x3 x4 x5 x6 x7 m => evK call n b19_6 [(1, x0), (2, x1), (4, x2), (8, x3), (9, x4), (52, x5), (53, x6), (54, x7)] m kn kx) (fun x0 x1 x2 x3 m => evK call n b19_8 [(2, x0), (4, x1), (8, x2), (9, x3)] m (fun e m => endK f19 m0 .nrm e m) (endK f19 m0)) y0 y1 y2 m := by kernel_rfl
def k19_9 (call : CL) (n : Nat) (m0 : Mem) : KN := (fun e m => endK f19 m0 .nrm e m)
def x19_9 (call : CL) (n : Nat) (m0 : Mem) : KX := (endK f19 m0)
def S19_9 (call : CL) (n : Nat) (m0 : Mem) (y0 y1 y2 : AV) (m : Mem) : Rho := G19_9 call n m0 (S19_6 call n) (S19_8 call n m0) y0 y1 y2 m
def d19_9 (call : CL) (n : Nat) (m0 : Mem) (y0 y1 y2 : AV) (m : Mem) : Rho := evK call n b19_9 [(1, y0), (2, y1), (4, y2)] m (k19_9 call n m0) (x19_9 call n m0)
theorem l19_9 {call : CL} {n : Nat} {m0 : Mem} : d19_9 call n m0 = S19_9 call n m0 := by
  funext y0 y1 y2 m
  have h : d19_9 call n m0 y0 y1 y2 m = G19_9 call n m0 (d19_6 call n) (d19_8 call n m0) y0 y1 y2 m := Eq.mp (by kernel_rfl) (g19_9 call n m0 b19_6 b19_8 y0 y1 y2 m)
  rw [l19_6, l19_8] at h; exact h
def G19_1 (call : CL) (n : Nat) (kn : KN) (kx : KX) (y0 y1 y2 y3 y4 y5 y6 : AV) (m : Mem) : Rho :=
  binK .add y6 (.int .i64 1) fun a0 =>
  kn [(1, y0), (2, y1), (4, y2), (5, y3), (17, y4), (18, y5), (19, a0)] m
theorem g19_1 (call : CL) (n : Nat) (kn : KN) (kx : KX) (y0 y1 y2 y3 y4 y5 y6 : AV) (m : Mem) : evK call n b19_1 [(1, y0), (2, y1), (4, y2), (5, y3), (17, y4), (18, y5), (19, y6)] m kn kx = G19_1 call n kn kx y0 y1 y2 y3 y4 y5 y6 m := by kernel_rfl
def k19_1 (call : CL) (n : Nat) (kn : KN) (kx : KX) : KN := kn
def x19_1 (call : CL) (n : Nat) (kn : KN) (kx : KX) : KX := kx
def S19_1 (call : CL) (n : Nat) (kn : KN) (kx : KX) (y0 y1 y2 y3 y4 y5 y6 : AV) (m : Mem) : Rho := G19_1 call n kn kx y0 y1 y2 y3 y4 y5 y6 m
def d19_1 (call : CL) (n : Nat) (kn : KN) (kx : KX) (y0 y1 y2 y3 y4 y5 y6 : AV) (m : Mem) : Rho := evK call n b19_1 [(1, y0), (2, y1), (4, y2), (5, y3), (17, y4), (18, y5), (19, y6)] m (k19_1 call n kn kx) (x19_1 call n kn kx)
theorem l19_1 {call : CL} {n : Nat} {kn : KN} {kx : KX} : d19_1 call n kn kx = S19_1 call n kn kx := by
  funext y0 y1 y2 y3 y4 y5 y6 m
  have h : d19_1 call n kn kx y0 y1 y2 y3 y4 y5 y6 m = G19_1 call n kn kx y0 y1 y2 y3 y4 y5 y6 m := Eq.mp (by kernel_rfl) (g19_1 call n kn kx y0 y1 y2 y3 y4 y5 y6 m)
  exact h
def G19_0 (call : CL) (n : Nat) (kn : KN) (kx : KX) (Q19_1 : Y7) (y0 y1 y2 y3 y4 y5 y6 y7 : AV) (m : Mem) : Rho :=
  vK (aIndexAddr m 1 y0 y4) m fun a0 m1 =>
  loadK none a0 m1 fun a2 m3 =>
  mapUpdateK ⟨[.i], false⟩ y3 a2 (.bool true) m3 fun a4 m5 =>
  Q19_1 y0 y1 y2 y3 y5 y6 y7 m5
theorem g19_0 (call : CL) (n : Nat) (kn : KN) (kx : KX) (b19_1 : C) (k19_1 : KN) (x19_1 : KX) (y0 y1 y2 y3 y4 y5 y6 y7 : AV) (m : Mem) : evK call n b19_0 [(1, y0), (2, y1), (4, y2), (5, y3), (7, y4), (17, y5), (18, y6), (19, y7)] m (jn call n [1, 2, 4, 5, 17, 18, 19] b19_1 k19_1 x19_1) (blkK 1 (jn call n [1, 2, 4, 5, 17, 18, 19] b19_1 k19_1 x19_1) kx) = G19_0 call n kn kx (fun x0 x1 x2 x3 x4 x5 x6 m => evK call n b19_1 [(1, x0), (2, x1), (4, x2), (5, x3), (17, x4), (18, x5), (19, x6)] m k19_1 x19_1) y0 y1 y2 y3 y4 y5 y6 y7 m := by kernel_rfl
def k19_0 (call : CL) (n : Nat) (kn : KN) (kx : KX) : KN := (jn call n [1, 2, 4, 5, 17, 18, 19] b19_1 (k19_1 call n kn kx) (x19_1 call n kn kx))
def x19_0 (call : CL) (n : Nat) (kn : KN) (kx : KX) : KX := (blkK 1 (jn call n [1, 2, 4, 5, 17, 18, 19] b19_1 (k19_1 call n kn kx) (x19_1 call n kn kx)) kx)
def S19_0 (call : CL) (n : Nat) (kn : KN) (kx : KX) (y0 y1 y2 y3 y4 y5 y6 y7 : AV) (m : Mem) : Rho := G19_0 call n kn kx (S19_1 call n kn kx) y0 y1 y2 y3 y4 y5 y6 y7 m
def d19_0 (call : CL) (n : Nat) (kn : KN) (kx : KX) (y0 y1 y2 y3 y4 y5 y6 y7 : AV) (m : Mem) : Rho := evK call n b19_0 [(1, y0), (2, y1), (4, y2), (5, y3), (7, y4), (17, y5), (18, y6), (19, y7)] m (k19_0 call n kn kx) (x19_0 call n kn kx)
theorem l19_0 {call : CL} {n : Nat} {kn : KN} {kx : KX} : d19_0 call n kn kx = S19_0 call n kn kx := by
  funext y0 y1 y2 y3 y4 y5 y6 y7 m
  have h : d19_0 call n kn kx y0 y1 y2 y3 y4 y5 y6 y7 m = G19_0 call n kn kx (d19_1 call n kn kx) y0 y1 y2 y3 y4 y5 y6 y7 m := Eq.mp (by kernel_rfl) (g19_0 call n kn kx b19_1 (k19_1 call n kn kx) (x19_1 call n kn kx) y0 y1 y2 y3 y4 y5 y6 y7 m)
  rw [l19_1] at h; exact h
def G19_2 (call : CL) (n : Nat) (kn : KN) (kx : KX) (Q19_0 : Y8) (y0 y1 y2 y3 y4 y5 y6 : AV) (m : Mem) : Rho :=
  vK (aIndexAddr m 1 y4 y6) m fun a0 m1 =>
  loadK none a0 m1 fun a2 m3 =>
  vK (aLen m3 1 y0) m3 fun a4 m5 =>
  binK .geq a2 a4 fun a6 =>
  gK a6 false (fun k => k y0 m5) m5 fun a7 m8 =>
  gK a6 false (fun k => k a2 m8) m8 fun a9 m10 =>
  gK a6 false (fun k => vK (aIndexAddr m10 1 a7 a9) m10 fun a11 m12 =>
  k a11 m12) m10 fun a13 m14 =>
  gK a6 false (fun k => loadK none a13 m14 fun a15 m16 =>
  k a15 m16) m14 fun a17 m18 =>
  gK a6 false (fun k => binK .lss a17 (.int .i64 0) fun a19 =>
  k a19 m18) m18 fun a20 m21 =>
  pickK a6 (some (.bool true)) (some a20) fun a22 =>
  gK a22 false (fun k => k y3 m21) m21 fun a23 m24 =>
  gK a22 false (fun k => k y0 m24) m24 fun a25 m26 =>
  gK a22 false (fun k => k a2 m26) m26 fun a27 m28 =>
  gK a22 false (fun k => vK (aIndexAddr m28 1 a25 a27) m28 fun a29 m30 =>
  k a29 m30) m28 fun a31 m32 =>
  gK a22 false (fun k => loadK none a31 m32 fun a33 m34 =>
  k a33 m34) m32 fun a35 m36 =>
  gK a22 false (fun k => lookupK ⟨[.i], false⟩ (.bool false) false a23 a35 m36 fun a37 =>
  k a37 m36) m36 fun a38 m39 =>
  pickK a22 (some (.bool true)) (some a38) fun a40 =>
  condK a40
  (callK call (.func 13 [] []) false [(.bool true)] m39 fun a41 m42 =>
  storeK 2 y2 a41 m42 fun a43 m44 =>
  kx .ret [(4, y2)] m44)
  (Q19_0 y0 y1 y2 y3 a2 y4 y5 y6 m39)
theorem g19_2 (call : CL) (n : Nat) (kn : KN) (kx : KX) (b19_0 : C) (b19_1 : C) (y0 y1 y2 y3 y4 y5 y6 : AV) (m : Mem) : evK call n (c19_2 b19_0 b19_1) [(1, y0), (2, y1), (4, y2), (5, y3), (17, y4), (18, y5), (19, y6)] m kn kx = G19_2 call n kn kx (fun x0 x1 x2 x3 x4 x5 x6 x7 m => evK call n b19_0 [(1, x0), (2, x1), (4, x2), (5, x3), (7, x4), (17, x5), (18, x6), (19, x7)] m (jn call n [1, 2, 4, 5, 17, 18, 19] b19_1 kn kx) (blkK 1 (jn call n [1, 2, 4, 5, 17, 18, 19] b19_1 kn kx) kx)) y0 y1 y2 y3 y4 y5 y6 m := by kernel_rfl
def k19_2 (call : CL) (n : Nat) (kn : KN) (kx : KX) : KN := kn
def x19_2 (call : CL) (n : Nat) (kn : KN) (kx : KX) : KX := kx
def S19_2 (call : CL) (n : Nat) (kn : KN) (kx : KX) (y0 y1 y2 y3 y4 y5 y6 : AV) (m : Mem) : Rho := G19_2 call n kn kx (S19_0 call n kn kx) y0 y1 y2 y3 y4 y5 y6 m
def d19_2 (call : CL) (n : Nat) (kn : KN) (kx : KX) (y0 y1 y2 y3 y4 y5 y6 : AV) (m : Mem) : Rho := evK call n b19_2 [(1, y0), (2, y1), (4, y2), (5, y3), (17, y4), (18, y5), (19, y6)] m (k19_2 call n kn kx) (x19_2 call n kn kx)
theorem l19_2 {call : CL} {n : Nat} {kn : KN} {kx : KX} : d19_2 call n kn kx = S19_2 call n kn kx := by
  funext y0 y1 y2 y3 y4 y5 y6 m
  have h : d19_2 call n kn kx y0 y1 y2 y3 y4 y5 y6 m = G19_2 call n kn kx (d19_0 call n kn kx) y0 y1 y2 y3 y4 y5 y6 m := Eq.mp (by kernel_rfl) (g19_2 call n kn kx b19_0 b19_1 y0 y1 y2 y3 y4 y5 y6 m)
  rw [l19_0] at h; exact h
def G19_3 (call : CL) (n : Nat) (kn : KN) (kx : KX) (Q19_2 : Y7) (y0 y1 y2 y3 y4 y5 y6 : AV) (m : Mem) : Rho :=
  binK .lss y6 y5 fun a0 =>
  condK a0
  (Q19_2 y0 y1 y2 y3 y4 y5 y6 m)
  (kx (.ext 0) [(1, y0), (2, y1), (4, y2), (5, y3), (17, y4), (18, y5), (19, y6), (20, a0)] m)
theorem g19_3 (call : CL) (n : Nat) (kn : KN) (kx : KX) (b19_2 : C) (y0 y1 y2 y3 y4 y5 y6 : AV) (m : Mem) : evK call n (c19_3 b19_2) [(1, y0), (2, y1), (4, y2), (5, y3), (17, y4), (18, y5), (19, y6)] m kn kx = G19_3 call n kn kx (fun x0 x1 x2 x3 x4 x5 x6 m => evK call n b19_2 [(1, x0), (2, x1), (4, x2), (5, x3), (17, x4), (18, x5), (19, x6)] m kn kx) y0 y1 y2 y3 y4 y5 y6 m := by kernel_rfl
def S19_3 (call : CL) (n : Nat) (kn : KN) (kx : KX) (y0 y1 y2 y3 y4 y5 y6 : AV) (m : Mem) : Rho := G19_3 call n kn kx (S19_2 call n kn kx) y0 y1 y2 y3 y4 y5 y6 m
def d19_3 (call : CL) (n : Nat) (kn : KN) (kx : KX) (y0 y1 y2 y3 y4 y5 y6 : AV) (m : Mem) : Rho := evK call n b19_3 [(1, y0), (2, y1), (4, y2), (5, y3), (17, y4), (18, y5), (19, y6)] m kn kx
theorem l19_3 {call : CL} {n : Nat} : d19_3 call n = S19_3 call n := by
  funext kn kx y0 y1 y2 y3 y4 y5 y6 m
  have h : d19_3 call n kn kx y0 y1 y2 y3 y4 y5 y6 m = G19_3 call n kn kx (d19_2 call n kn kx) y0 y1 y2 y3 y4 y5 y6 m := Eq.mp (by kernel_rfl) (g19_3 call n kn kx b19_2 y0 y1 y2 y3 y4 y5 y6 m)
  rw [l19_2] at h; exact h
def G19 (call : CL) (n : Nat) (m0 : Mem) (B19_3 : KN → KX → Y7) (Q19_9 : Y3) (y0 y1 : AV) (m : Mem) : Rho :=
  boxK y0 m fun a0 m1 =>
  newK [(.list .full 0 []), (.bool false)] m1 fun a2 m3 =>
  makeMapK m3 fun a4 m5 =>
  loadK (some 2) a0 m5 fun a6 m7 =>
  callK call (.func 6 [] []) false [a6] m7 fun a8 m9 =>
  vK (aLen m9 1 a8) m9 fun a10 m11 =>
  loopV [1, 2, 4, 5, 17, 18, 19] none (fun vs m kn kx => unc vs fun x0 vs => unc vs fun x1 vs => unc vs fun x2 vs => unc vs fun x3 vs => unc vs fun x4 vs => unc vs fun x5 vs => unc vs fun x6 vs => unz vs (B19_3 kn kx x0 x1 x2 x3 x4 x5 x6 m)) (blkK 0 (fun e m => keepK e [1, 2, 4] fun vs => unc vs fun x0 vs => unc vs fun x1 vs => unc vs fun x2 vs => unz vs (Q19_9 x0 x1 x2 m)) (endK f19 m0)) n [y1, a0, a2, a4, a8, a10, (.int .i64 0)] m11
theorem g19 (call : CL) (n : Nat) (m0 : Mem) (b19_3 : C) (b19_9 : C) (y0 y1 : AV) (m : Mem) : evK call n (c19 b19_3 b19_9) [(0, y0), (1, y1)] m (fun e m => endK f19 m0 .nrm e m) (endK f19 m0) = G19 call n m0 (fun kn kx x0 x1 x2 x3 x4 x5 x6 m => evK call n b19_3 [(1, x0), (2, x1), (4, x2), (5, x3), (17, x4), (18, x5), (19, x6)] m kn kx) (fun x0 x1 x2 m => evK call n b19_9 [(1, x0), (2, x1), (4, x2)] m (fun e m => endK f19 m0 .nrm e m) (endK f19 m0)) y0 y1 m := by kernel_rfl
def S19 (call : CL) (n : Nat) (m0 : Mem) (y0 y1 : AV) : Rho := G19 call n m0 (S19_3 call n) (S19_9 call n m0) y0 y1 { m0 with bad := none }
theorem s19 (call : CL) (n : Nat) (m0 : Mem) (y0 y1 : AV) : bodyK call n f19 [y0, y1] m0 = S19 call n m0 y0 y1 :=
  have h : bodyK call n f19 [y0, y1] m0 = G19 call n m0 (d19_3 call n) (d19_9 call n m0) y0 y1 { m0 with bad := none } := Eq.mp (by kernel_rfl) (g19 call n m0 b19_3 b19_9 y0 y1 { m0 with bad := none })
  by rw [l19_3, l19_9] at h; exact h
def F19 : SF := fun call n vs m0 => unc vs fun x0 vs => unc vs fun x1 vs => unz vs (S19 call n m0 x0 x1)
theorem F19_ok {orc : List AV → Mem → Option (AV × Mem)} : SOk 19 { f19 with orc := orc } F19 := by
  intro call n vs m0 ho r h0
  simp only [F19] at h0
  obtain ⟨y0, v0, rfl, h1⟩ := unc_some h0
  obtain ⟨y1, v1, rfl, h2⟩ := unc_some h1
  obtain ⟨rfl, hz⟩ := unz_some h2
  exact bodyK_le ho rfl r (Eq.mp (by kernel_rfl) ((s19 call n m0 y0 y1).trans hz))

-- resolvent/resolventlaw16.holds
def G20_5 (call : CL) (n : Nat) (m0 : Mem) (y0 : AV) (m : Mem) : Rho :=
  vK (aFieldAddr 1 1 y0) m fun a0 m1 =>
  loadK none a0 m1 fun a2 m3 =>
  binK .gtr a2 (.int .i64 0) fun a4 =>
  retK false false m0 [a4] m3
theorem g20_5 (call : CL) (n : Nat) (m0 : Mem) (y0 : AV) (m : Mem) : evK call n b20_5 [(3, y0)] m (fun e m => endK f20 m0 .nrm e m) (endK f20 m0) = G20_5 call n m0 y0 m := by kernel_rfl
def k20_5 (call : CL) (n : Nat) (m0 : Mem) : KN := (fun e m => endK f20 m0 .nrm e m)
def x20_5 (call : CL) (n : Nat) (m0 : Mem) : KX := (endK f20 m0)
def S20_5 (call : CL) (n : Nat) (m0 : Mem) (y0 : AV) (m : Mem) : Rho := G20_5 call n m0 y0 m
def d20_5 (call : CL) (n : Nat) (m0 : Mem) (y0 : AV) (m : Mem) : Rho := evK call n b20_5 [(3, y0)] m (k20_5 call n m0) (x20_5 call n m0)
theorem l20_5 {call : CL} {n : Nat} {m0 : Mem} : d20_5 call n m0 = S20_5 call n m0 := by
  funext y0 m
  have h : d20_5 call n m0 y0 m = G20_5 call n m0 y0 m := Eq.mp (by kernel_rfl) (g20_5 call n m0 y0 m)
  exact h
def G20_2 (call : CL) (n : Nat) (m0 : Mem) (y0 y1 y2 : AV) (m : Mem) : Rho :=
  vK (aFieldAddr 1 1 y1) m fun a0 m1 =>
  loadK none a0 m1 fun a2 m3 =>
  binK .lss a2 (.int .i64 0) fun a4 =>
  gK a4 false (fun k => k y0 m3) m3 fun a5 m6 =>
  gK a4 false (fun k => vK (aFieldAddr 1 1 y1) m6 fun a7 m8 =>
  k a7 m8) m6 fun a9 m10 =>
  gK a4 false (fun k => loadK none a9 m10 fun a11 m12 =>
  k a11 m12) m10 fun a13 m14 =>
  gK a4 false (fun k => callK call (.func 7 [] []) false [a5, a13] m14 fun a15 m16 =>
  k a15 m16) m14 fun a17 m18 =>
  gK a4 false (fun k => k y2 m18) m18 fun a19 m20 =>
  gK a4 false (fun k => eqvK ⟨[.b], false⟩ false a17 a19 fun a21 =>
  k a21 m20) m20 fun a22 m23 =>
  pickK a4 (some (.bool true)) (some a22) fun a24 =>
  retK false false m0 [a24] m23
theorem g20_2 (call : CL) (n : Nat) (m0 : Mem) (b20_5 : C) (k20_5 : KN) (x20_5 : KX) (y0 y1 y2 : AV) (m : Mem) : evK call n b20_2 [(2, y0), (3, y1), (8, y2)] m (jn call n [3] b20_5 k20_5 x20_5) (blkK 0 (jn call n [3] b20_5 k20_5 x20_5) (endK f20 m0)) = G20_2 call n m0 y0 y1 y2 m := by kernel_rfl
def k20_2 (call : CL) (n : Nat) (m0 : Mem) : KN := (jn call n [3] b20_5 (k20_5 call n m0) (x20_5 call n m0))
def x20_2 (call : CL) (n : Nat) (m0 : Mem) : KX := (blkK 0 (jn call n [3] b20_5 (k20_5 call n m0) (x20_5 call n m0)) (endK f20 m0))
def S20_2 (call : CL) (n : Nat) (m0 : Mem) (y0 y1 y2 : AV) (m : Mem) : Rho := G20_2 call n m0 y0 y1 y2 m
def d20_2 (call : CL) (n : Nat) (m0 : Mem) (y0 y1 y2 : AV) (m : Mem) : Rho := evK call n b20_2 [(2, y0), (3, y1), (8, y2)] m (k20_2 call n m0) (x20_2 call n m0)
theorem l20_2 {call : CL} {n : Nat} {m0 : Mem} : d20_2 call n m0 = S20_2 call n m0 := by
  funext y0 y1 y2 m
  have h : d20_2 call n m0 y0 y1 y2 m = G20_2 call n m0 y0 y1 y2 m := Eq.mp (by kernel_rfl) (g20_2 call n m0 b20_5 (k20_5 call n m0) (x20_5 call n m0) y0 y1 y2 m)
  exact h
def G20_0 (call : CL) (n : Nat) (kn : KN) (kx : KX) (y0 y1 y2 y3 : AV) (m : Mem) : Rho :=
  gK y2 true (fun k => vK (aFieldAddr 4 1 y1) m fun a0 m1 =>
  k a0 m1) m fun a2 m3 =>
  gK y2 true (fun k => loadK none a2 m3 fun a4 m5 =>
  k a4 m5) m3 fun a6 m7 =>
  gK y2 true (fun k => k y3 m7) m7 fun a8 m9 =>
  gK y2 true (fun k => vK (aIndexAddr m9 1 a6 a8) m9 fun a10 m11 =>
  k a10 m11) m9 fun a12 m13 =>
  gK y2 true (fun k => loadK none a12 m13 fun a14 m15 =>
  k a14 m15) m13 fun a16 m17 =>
  gK y2 true (fun k => binK .lss a16 (.int .i64 0) fun a18 =>
  k a18 m17) m17 fun a19 m20 =>
  gK y2 true (fun k => k a19 m20) m20 fun a21 m22 =>
  gK a21 false (fun k => k y0 m22) m22 fun a23 m24 =>
  gK a21 false (fun k => vK (aFieldAddr 4 1 y1) m24 fun a25 m26 =>
  k a25 m26) m24 fun a27 m28 =>
  gK a21 false (fun k => loadK none a27 m28 fun a29 m30 =>
  k a29 m30) m28 fun a31 m32 =>
  gK a21 false (fun k => k y3 m32) m32 fun a33 m34 =>
  gK a21 false (fun k => vK (aIndexAddr m34 1 a31 a33) m34 fun a35 m36 =>
  k a35 m36) m34 fun a37 m38 =>
  gK a21 false (fun k => loadK none a37 m38 fun a39 m40 =>
  k a39 m40) m38 fun a41 m42 =>
  gK a21 false (fun k => callK call (.func 7 [] []) false [a23, a41] m42 fun a43 m44 =>
  k a43 m44) m42 fun a45 m46 =>
  gK y2 true (fun k => pickK a21 (some (.bool true)) (some a45) fun a47 =>
  k a47 m46) m46 fun a48 m49 =>
  pickK y2 (some a48) (some (.bool false)) fun a50 =>
  binK .add y3 (.int .i64 1) fun a51 =>
  kn [(2, y0), (3, y1), (8, a50), (9, a51)] m49
theorem g20_0 (call : CL) (n : Nat) (kn : KN) (kx : KX) (y0 y1 y2 y3 : AV) (m : Mem) : evK call n b20_0 [(2, y0), (3, y1), (8, y2), (9, y3)] m kn kx = G20_0 call n kn kx y0 y1 y2 y3 m := by kernel_rfl
def k20_0 (call : CL) (n : Nat) (kn : KN) (kx : KX) : KN := kn
def x20_0 (call : CL) (n : Nat) (kn : KN) (kx : KX) : KX := kx
def S20_0 (call : CL) (n : Nat) (kn : KN) (kx : KX) (y0 y1 y2 y3 : AV) (m : Mem) : Rho := G20_0 call n kn kx y0 y1 y2 y3 m
def d20_0 (call : CL) (n : Nat) (kn : KN) (kx : KX) (y0 y1 y2 y3 : AV) (m : Mem) : Rho := evK call n b20_0 [(2, y0), (3, y1), (8, y2), (9, y3)] m (k20_0 call n kn kx) (x20_0 call n kn kx)
theorem l20_0 {call : CL} {n : Nat} {kn : KN} {kx : KX} : d20_0 call n kn kx = S20_0 call n kn kx := by
  funext y0 y1 y2 y3 m
  have h : d20_0 call n kn kx y0 y1 y2 y3 m = G20_0 call n kn kx y0 y1 y2 y3 m := Eq.mp (by kernel_rfl) (g20_0 call n kn kx y0 y1 y2 y3 m)
  exact h
def G20_1 (call : CL) (n : Nat) (kn : KN) (kx : KX) (Q20_0 : Y4) (y0 y1 y2 y3 : AV) (m : Mem) : Rho :=
  vK (aFieldAddr 4 1 y1) m fun a0 m1 =>
  loadK none a0 m1 fun a2 m3 =>
  vK (aLen m3 1 a2) m3 fun a4 m5 =>
  binK .lss y3 a4 fun a6 =>
  condK a6
  (Q20_0 y0 y1 y2 y3 m5)
  (kx (.ext 1) [(2, y0), (3, y1), (8, y2), (9, y3), (32, a6)] m5)
theorem g20_1 (call : CL) (n : Nat) (kn : KN) (kx : KX) (b20_0 : C) (y0 y1 y2 y3 : AV) (m : Mem) : evK call n (c20_1 b20_0) [(2, y0), (3, y1), (8, y2), (9, y3)] m kn kx = G20_1 call n kn kx (fun x0 x1 x2 x3 m => evK call n b20_0 [(2, x0), (3, x1), (8, x2), (9, x3)] m kn kx) y0 y1 y2 y3 m := by kernel_rfl
def S20_1 (call : CL) (n : Nat) (kn : KN) (kx : KX) (y0 y1 y2 y3 : AV) (m : Mem) : Rho := G20_1 call n kn kx (S20_0 call n kn kx) y0 y1 y2 y3 m
def d20_1 (call : CL) (n : Nat) (kn : KN) (kx : KX) (y0 y1 y2 y3 : AV) (m : Mem) : Rho := evK call n b20_1 [(2, y0), (3, y1), (8, y2), (9, y3)] m kn kx
theorem l20_1 {call : CL} {n : Nat} : d20_1 call n = S20_1 call n := by
  funext kn kx y0 y1 y2 y3 m
  have h : d20_1 call n kn kx y0 y1 y2 y3 m = G20_1 call n kn kx (d20_0 call n kn kx) y0 y1 y2 y3 m := Eq.mp (by kernel_rfl) (g20_1 call n kn kx b20_0 y0 y1 y2 y3 m)
  rw [l20_0] at h; exact h
def G20_4 (call : CL) (n : Nat) (m0 : Mem) (y0 y1 y2 : AV) (m : Mem) : Rho :=
  vK (aIndexAddrA 2 1 y2 (.int .i64 0)) m fun a0 m1 =>
  loadK none a0 m1 fun a2 m3 =>
  vK (aFieldAddr 1 1 y1) m3 fun a4 m5 =>
  loadK none a4 m5 fun a6 m7 =>
  binK .shl (.int .i64 1) a6 fun a8 =>
  binK .or y0 a8 fun a9 =>
  binK .shr a2 a9 fun a10 =>
  binK .and a10 (.int .u64 1) fun a11 =>
  binK .eql a11 (.int .u64 1) fun a12 =>
  gK a12 false (fun k => vK (aIndexAddrA 2 1 y2 (.int .i64 0)) m7 fun a13 m14 =>
  k a13 m14) m7 fun a15 m16 =>
  gK a12 false (fun k => loadK none a15 m16 fun a17 m18 =>
  k a17 m18) m16 fun a19 m20 =>
  gK a12 false (fun k => k y0 m20) m20 fun a21 m22 =>
  gK a12 false (fun k => vK (aFieldAddr 1 1 y1) m22 fun a23 m24 =>
  k a23 m24) m22 fun a25 m26 =>
  gK a12 false (fun k => loadK none a25 m26 fun a27 m28 =>
  k a27 m28) m26 fun a29 m30 =>
  gK a12 false (fun k => binK .shl (.int .i64 1) a29 fun a31 =>
  k a31 m30) m30 fun a32 m33 =>
  gK a12 false (fun k => binK .andNot a21 a32 fun a34 =>
  k a34 m33) m33 fun a35 m36 =>
  gK a12 false (fun k => binK .shr a19 a35 fun a37 =>
  k a37 m36) m36 fun a38 m39 =>
  gK a12 false (fun k => binK .and a38 (.int .u64 1) fun a40 =>
  k a40 m39) m39 fun a41 m42 =>
  gK a12 false (fun k => binK .eql a41 (.int .u64 1) fun a43 =>
  k a43 m42) m42 fun a44 m45 =>
  pickK a12 (some (.bool true)) (some a44) fun a46 =>
  retK false false m0 [a46] m45
theorem g20_4 (call : CL) (n : Nat) (m0 : Mem) (b20_5 : C) (k20_5 : KN) (x20_5 : KX) (y0 y1 y2 : AV) (m : Mem) : evK call n b20_4 [(2, y0), (3, y1), (7, y2)] m (jn call n [3] b20_5 k20_5 x20_5) (blkK 0 (jn call n [3] b20_5 k20_5 x20_5) (endK f20 m0)) = G20_4 call n m0 y0 y1 y2 m := by kernel_rfl
def k20_4 (call : CL) (n : Nat) (m0 : Mem) : KN := (jn call n [3] b20_5 (k20_5 call n m0) (x20_5 call n m0))
def x20_4 (call : CL) (n : Nat) (m0 : Mem) : KX := (blkK 0 (jn call n [3] b20_5 (k20_5 call n m0) (x20_5 call n m0)) (endK f20 m0))
def S20_4 (call : CL) (n : Nat) (m0 : Mem) (y0 y1 y2 : AV) (m : Mem) : Rho := G20_4 call n m0 y0 y1 y2 m
def d20_4 (call : CL) (n : Nat) (m0 : Mem) (y0 y1 y2 : AV) (m : Mem) : Rho := evK call n b20_4 [(2, y0), (3, y1), (7, y2)] m (k20_4 call n m0) (x20_4 call n m0)
theorem l20_4 {call : CL} {n : Nat} {m0 : Mem} : d20_4 call n m0 = S20_4 call n m0 := by
  funext y0 y1 y2 m
  have h : d20_4 call n m0 y0 y1 y2 m = G20_4 call n m0 y0 y1 y2 m := Eq.mp (by kernel_rfl) (g20_4 call n m0 b20_5 (k20_5 call n m0) (x20_5 call n m0) y0 y1 y2 m)
  exact h
def G20 (call : CL) (n : Nat) (m0 : Mem) (B20_1 : KN → KX → Y4) (Q20_2 : Y3) (Q20_5 : Y1) (Q20_4 : Y3) (y0 y1 y2 : AV) (m : Mem) : Rho :=
  boxK y0 m fun a0 m1 =>
  loadK (some 5) a0 m1 fun a2 m3 =>
  callK call (.func 39 [] []) false [a2, y1] m3 fun a4 m5 =>
  newK [(.int .u64 0), (.int .u64 0)] m5 fun a6 m7 =>
  storeK 2 a6 a4 m7 fun a8 m9 =>
  vK (aFieldAddr 0 1 a0) m9 fun a10 m11 =>
  loadK none a10 m11 fun a12 m13 =>
  binK .eql a12 (.int .i64 0) fun a14 =>
  condK a14
  (vK (aFieldAddr 1 1 a0) m13 fun a15 m16 =>
  loadK none a15 m16 fun a17 m18 =>
  binK .lss a17 (.int .i64 0) fun a19 =>
  gK a19 false (fun k => k y2 m18) m18 fun a20 m21 =>
  gK a19 false (fun k => vK (aFieldAddr 1 1 a0) m21 fun a22 m23 =>
  k a22 m23) m21 fun a24 m25 =>
  gK a19 false (fun k => loadK none a24 m25 fun a26 m27 =>
  k a26 m27) m25 fun a28 m29 =>
  gK a19 false (fun k => callK call (.func 7 [] []) false [a20, a28] m29 fun a30 m31 =>
  k a30 m31) m29 fun a32 m33 =>
  pickK a19 (some (.bool true)) (some a32) fun a34 =>
  retK false false m0 [a34] m33)
  (binK .eql a12 (.int .i64 1) fun a35 =>
  condK a35
  (loopV [2, 3, 8, 9] none (fun vs m kn kx => unc vs fun x0 vs => unc vs fun x1 vs => unc vs fun x2 vs => unc vs fun x3 vs => unz vs (B20_1 kn kx x0 x1 x2 x3 m)) (blkK 1 (fun e m => keepK e [2, 3, 8] fun vs => unc vs fun x0 vs => unc vs fun x1 vs => unc vs fun x2 vs => unz vs (Q20_2 x0 x1 x2 m)) (blkK 0 (fun e m => keepK e [3] fun vs => unc vs fun x0 vs => unz vs (Q20_5 x0 m)) (endK f20 m0))) n [y2, a0, (.bool true), (.int .i64 0)] m13)
  (binK .eql a12 (.int .i64 2) fun a36 =>
  condK a36
  (vK (aIndexAddrA 2 1 a6 (.int .i64 0)) m13 fun a37 m38 =>
  loadK none a37 m38 fun a39 m40 =>
  binK .shr a39 y2 fun a41 =>
  binK .and a41 (.int .u64 1) fun a42 =>
  binK .eql a42 (.int .u64 1) fun a43 =>
  gK a43 true (fun k => vK (aIndexAddrA 2 1 a6 (.int .i64 1)) m40 fun a44 m45 =>
  k a44 m45) m40 fun a46 m47 =>
  gK a43 true (fun k => loadK none a46 m47 fun a48 m49 =>
  k a48 m49) m47 fun a50 m51 =>
  gK a43 true (fun k => k y2 m51) m51 fun a52 m53 =>
  gK a43 true (fun k => binK .shr a50 a52 fun a54 =>
  k a54 m53) m53 fun a55 m56 =>
  gK a43 true (fun k => binK .and a55 (.int .u64 1) fun a57 =>
  k a57 m56) m56 fun a58 m59 =>
  gK a43 true (fun k => binK .eql a58 (.int .u64 1) fun a60 =>
  k a60 m59) m59 fun a61 m62 =>
  pickK a43 (some a61) (some (.bool false)) fun a63 =>
  retK false false m0 [a63] m62)
  (binK .eql a12 (.int .i64 3) fun a64 =>
  condK a64
  (vK (aIndexAddrA 2 1 a6 (.int .i64 0)) m13 fun a65 m66 =>
  loadK none a65 m66 fun a67 m68 =>
  binK .shr a67 y2 fun a69 =>
  binK .and a69 (.int .u64 1) fun a70 =>
  binK .eql a70 (.int .u64 1) fun a71 =>
  gK a71 false (fun k => vK (aIndexAddrA 2 1 a6 (.int .i64 1)) m68 fun a72 m73 =>
  k a72 m73) m68 fun a74 m75 =>
  gK a71 false (fun k => loadK none a74 m75 fun a76 m77 =>
  k a76 m77) m75 fun a78 m79 =>
  gK a71 false (fun k => k y2 m79) m79 fun a80 m81 =>
  gK a71 false (fun k => binK .shr a78 a80 fun a82 =>
  k a82 m81) m81 fun a83 m84 =>
  gK a71 false (fun k => binK .and a83 (.int .u64 1) fun a85 =>
  k a85 m84) m84 fun a86 m87 =>
  gK a71 false (fun k => binK .eql a86 (.int .u64 1) fun a88 =>
  k a88 m87) m87 fun a89 m90 =>
  pickK a71 (some (.bool true)) (some a89) fun a91 =>
  retK false false m0 [a91] m90)
  (binK .eql a12 (.int .i64 4) fun a92 =>
  condK a92
  (vK (aFieldAddr 1 1 a0) m13 fun a93 m94 =>
  loadK none a93 m94 fun a95 m96 =>
  binK .lss a95 (.int .i64 0) fun a97 =>
  gK a97 false (fun k => vK (aFieldAddr 1 1 a0) m96 fun a98 m99 =>
  k a98 m99) m96 fun a100 m101 =>
  gK a97 false (fun k => loadK none a100 m101 fun a102 m103 =>
  k a102 m103) m101 fun a104 m105 =>
  gK a97 false (fun k => binK .gtr a104 (.int .i64 5) fun a106 =>
  k a106 m105) m105 fun a107 m108 =>
  pickK a97 (some (.bool true)) (some a107) fun a109 =>
  condK a109
  (vK (aIndexAddrA 2 1 a6 (.int .i64 0)) m108 fun a110 m111 =>
  loadK none a110 m111 fun a112 m113 =>
  binK .shr a112 y2 fun a114 =>
  binK .and a114 (.int .u64 1) fun a115 =>
  binK .eql a115 (.int .u64 1) fun a116 =>
  retK false false m0 [a116] m113)
  (Q20_4 y2 a0 a6 m108))
  (binK .eql a12 (.int .i64 5) fun a117 =>
  condK a117
  (loadK (some 5) a0 m13 fun a118 m119 =>
  vK (aIndexAddrA 2 1 a6 (.int .i64 0)) m119 fun a120 m121 =>
  loadK none a120 m121 fun a122 m123 =>
  callK call (.func 40 [] []) false [a118, a122, y2] m123 fun a124 m125 =>
  retK false false m0 [a124] m125)
  (Q20_5 a0 m13))))))
theorem g20 (call : CL) (n : Nat) (m0 : Mem) (b20_1 : C) (b20_2 : C) (b20_4 : C) (b20_5 : C) (y0 y1 y2 : AV) (m : Mem) : evK call n (c20 b20_1 b20_2 b20_4 b20_5) [(0, y0), (1, y1), (2, y2)] m (fun e m => endK f20 m0 .nrm e m) (endK f20 m0) = G20 call n m0 (fun kn kx x0 x1 x2 x3 m => evK call n b20_1 [(2, x0), (3, x1), (8, x2), (9, x3)] m kn kx) (fun x0 x1 x2 m => evK call n b20_2 [(2, x0), (3, x1), (8, x2)] m (jn call n [3] b20_5 (fun e m => endK f20 m0 .nrm e m) (endK f20 m0)) (blkK 0 (jn call n [3] b20_5 (fun e m => endK f20 m0 .nrm e m) (endK f20 m0)) (endK f20 m0))) (fun x0 m => evK call n b20_5 [(3, x0)] m (fun e m => endK f20 m0 .nrm e m) (endK f20 m0)) (fun x0 x1 x2 m => evK call n b20_4 [(2, x0), (3, x1), (7, x2)] m (jn call n [3] b20_5 (fun e m => endK f20 m0 .nrm e m) (endK f20 m0)) (blkK 0 (jn call n [3] b20_5 (fun e m => endK f20 m0 .nrm e m) (endK f20 m0)) (endK f20 m0))) y0 y1 y2 m := by kernel_rfl
def S20 (call : CL) (n : Nat) (m0 : Mem) (y0 y1 y2 : AV) : Rho := G20 call n m0 (S20_1 call n) (S20_2 call n m0) (S20_5 call n m0) (S20_4 call n m0) y0 y1 y2 { m0 with bad := none }
theorem s20 (call : CL) (n : Nat) (m0 : Mem) (y0 y1 y2 : AV) : bodyK call n f20 [y0, y1, y2] m0 = S20 call n m0 y0 y1 y2 :=
  have h : bodyK call n f20 [y0, y1, y2] m0 = G20 call n m0 (d20_1 call n) (d20_2 call n m0) (d20_5 call n m0) (d20_4 call n m0) y0 y1 y2 { m0 with bad := none } := Eq.mp (by kernel_rfl) (g20 call n m0 b20_1 b20_2 b20_4 b20_5 y0 y1 y2 { m0 with bad := none })
  by rw [l20_1, l20_2, l20_5, l20_4] at h; exact h
def F20 : SF := fun call n vs m0 => unc vs fun x0 vs => unc vs fun x1 vs => unc vs fun x2 vs => unz vs (S20 call n m0 x0 x1 x2)
theorem F20_ok {orc : List AV → Mem → Option (AV × Mem)} : SOk 20 { f20 with orc := orc } F20 := by
  intro call n vs m0 ho r h0
  simp only [F20] at h0
  obtain ⟨y0, v0, rfl, h1⟩ := unc_some h0
  obtain ⟨y1, v1, rfl, h2⟩ := unc_some h1
  obtain ⟨y2, v2, rfl, h3⟩ := unc_some h2
  obtain ⟨rfl, hz⟩ := unz_some h3
  exact bodyK_le ho rfl r (Eq.mp (by kernel_rfl) ((s20 call n m0 y0 y1 y2).trans hz))

-- (resolvent/pos.Func).Entails
def G21 (call : CL) (n : Nat) (m0 : Mem) (y0 y1 : AV) (m : Mem) : Rho :=
  boxK y0 m fun a0 m1 =>
  loadK (some 2) a0 m1 fun a2 m3 =>
  callK call (.func 14 [] []) false [y1] m3 fun a4 m5 =>
  callK call (.func 16 [] []) false [a2, a4] m5 fun a6 m7 =>
  loadK (some 2) a0 m7 fun a8 m9 =>
  callK call (.func 11 [] []) false [a6, a8] m9 fun a10 m11 =>
  gDK a10 true (fun k => k y1 m11) m11 fun r12 a13 m14 =>
  gDK a10 true (fun k => binK .geq a13 (.int .i64 0) fun a15 =>
  k a15 m14) m14 fun r16 a17 m18 =>
  pickK a10 (some a17) (some (.bool false)) fun a19 =>
  cond (stayK [m1, m5, m7, m11] [(fun m => m.load (some 2) a0, a2, 0, 2, true), (fun m => m.load (some 2) a0, a8, 0, 3, true)]) (retK false false m0 [a19] m18) none
theorem g21 (call : CL) (n : Nat) (m0 : Mem) (y0 y1 : AV) (m : Mem) : evK call n b21 [(0, y0), (1, y1)] m (fun e m => endK f21 m0 .nrm e m) (endK f21 m0) = G21 call n m0 y0 y1 m := by kernel_rfl
def S21 (call : CL) (n : Nat) (m0 : Mem) (y0 y1 : AV) : Rho := G21 call n m0 y0 y1 { m0 with bad := none }
theorem s21 (call : CL) (n : Nat) (m0 : Mem) (y0 y1 : AV) : bodyK call n f21 [y0, y1] m0 = S21 call n m0 y0 y1 :=
  have h : bodyK call n f21 [y0, y1] m0 = G21 call n m0 y0 y1 { m0 with bad := none } := Eq.mp (by kernel_rfl) (g21 call n m0 y0 y1 { m0 with bad := none })
  h
def F21 : SF := fun call n vs m0 => unc vs fun x0 vs => unc vs fun x1 vs => unz vs (S21 call n m0 x0 x1)
theorem F21_ok {orc : List AV → Mem → Option (AV × Mem)} : SOk 21 { f21 with orc := orc } F21 := by
  intro call n vs m0 ho r h0
  simp only [F21] at h0
  obtain ⟨y0, v0, rfl, h1⟩ := unc_some h0
  obtain ⟨y1, v1, rfl, h2⟩ := unc_some h1
  obtain ⟨rfl, hz⟩ := unz_some h2
  exact bodyK_le ho rfl r (Eq.mp (by kernel_rfl) ((s21 call n m0 y0 y1).trans hz))

-- (resolvent/pos.Func).Size
def G22 (call : CL) (n : Nat) (m0 : Mem) (y0 : AV) (m : Mem) : Rho :=
  boxK y0 m fun a0 m1 =>
  vK (aFieldAddr 0 1 a0) m1 fun a2 m3 =>
  loadK none a2 m3 fun a4 m5 =>
  vK (aLen m5 1 a4) m5 fun a6 m7 =>
  retK false false m0 [a6] m7
theorem g22 (call : CL) (n : Nat) (m0 : Mem) (y0 : AV) (m : Mem) : evK call n b22 [(0, y0)] m (fun e m => endK f22 m0 .nrm e m) (endK f22 m0) = G22 call n m0 y0 m := by kernel_rfl
def S22 (call : CL) (n : Nat) (m0 : Mem) (y0 : AV) : Rho := G22 call n m0 y0 { m0 with bad := none }
theorem s22 (call : CL) (n : Nat) (m0 : Mem) (y0 : AV) : bodyK call n f22 [y0] m0 = S22 call n m0 y0 :=
  have h : bodyK call n f22 [y0] m0 = G22 call n m0 y0 { m0 with bad := none } := Eq.mp (by kernel_rfl) (g22 call n m0 y0 { m0 with bad := none })
  h
def F22 : SF := fun call n vs m0 => unc vs fun x0 vs => unz vs (S22 call n m0 x0)
theorem F22_ok {orc : List AV → Mem → Option (AV × Mem)} : SOk 22 { f22 with orc := orc } F22 := by
  intro call n vs m0 ho r h0
  simp only [F22] at h0
  obtain ⟨y0, v0, rfl, h1⟩ := unc_some h0
  obtain ⟨rfl, hz⟩ := unz_some h1
  exact bodyK_le ho rfl r (Eq.mp (by kernel_rfl) ((s22 call n m0 y0).trans hz))

-- slices.Contains[[]int,int]
def G25 (call : CL) (n : Nat) (m0 : Mem) (y0 y1 : AV) (m : Mem) : Rho :=
  callK call (.func 43 [] []) false [y0, y1] m fun a0 m1 =>
  binK .geq a0 (.int .i64 0) fun a2 =>
  retK false false m0 [a2] m1
theorem g25 (call : CL) (n : Nat) (m0 : Mem) (y0 y1 : AV) (m : Mem) : evK call n b25 [(0, y0), (1, y1)] m (fun e m => endK f25 m0 .nrm e m) (endK f25 m0) = G25 call n m0 y0 y1 m := by kernel_rfl
def S25 (call : CL) (n : Nat) (m0 : Mem) (y0 y1 : AV) : Rho := G25 call n m0 y0 y1 { m0 with bad := none }
theorem s25 (call : CL) (n : Nat) (m0 : Mem) (y0 y1 : AV) : bodyK call n f25 [y0, y1] m0 = S25 call n m0 y0 y1 :=
  have h : bodyK call n f25 [y0, y1] m0 = G25 call n m0 y0 y1 { m0 with bad := none } := Eq.mp (by kernel_rfl) (g25 call n m0 y0 y1 { m0 with bad := none })
  h
def F25 : SF := fun call n vs m0 => unc vs fun x0 vs => unc vs fun x1 vs => unz vs (S25 call n m0 x0 x1)
theorem F25_ok {orc : List AV → Mem → Option (AV × Mem)} : SOk 25 { f25 with orc := orc } F25 := by
  intro call n vs m0 ho r h0
  simp only [F25] at h0
  obtain ⟨y0, v0, rfl, h1⟩ := unc_some h0
  obtain ⟨y1, v1, rfl, h2⟩ := unc_some h1
  obtain ⟨rfl, hz⟩ := unz_some h2
  exact bodyK_le ho rfl r (Eq.mp (by kernel_rfl) ((s25 call n m0 y0 y1).trans hz))

-- resolvent/pos.open
def G26 (call : CL) (n : Nat) (m0 : Mem) (m : Mem) : Rho :=
  makeMapK m fun a0 m1 =>
  buildTK [(.list .full 0 []), .nilmap] 0 3 [(1, 1, AV.untag1 a0)] m1 fun a2 m3 =>
  boxK a2 m3 fun a4 m5 =>
  retK false false m0 [a4] m5
theorem g26 (call : CL) (n : Nat) (m0 : Mem) (m : Mem) : evK call n b26 [] m (fun e m => endK f26 m0 .nrm e m) (endK f26 m0) = G26 call n m0 m := by kernel_rfl
def S26 (call : CL) (n : Nat) (m0 : Mem) : Rho := G26 call n m0 { m0 with bad := none }
theorem s26 (call : CL) (n : Nat) (m0 : Mem) : bodyK call n f26 [] m0 = S26 call n m0 :=
  have h : bodyK call n f26 [] m0 = G26 call n m0 { m0 with bad := none } := Eq.mp (by kernel_rfl) (g26 call n m0 { m0 with bad := none })
  h
def F26 : SF := fun call n vs m0 => unz vs (S26 call n m0)
theorem F26_ok {orc : List AV → Mem → Option (AV × Mem)} : SOk 26 { f26 with orc := orc } F26 := by
  intro call n vs m0 ho r h0
  simp only [F26] at h0
  obtain ⟨rfl, hz⟩ := unz_some h0
  exact bodyK_le ho rfl r (Eq.mp (by kernel_rfl) ((s26 call n m0).trans hz))

-- (*resolvent/pos.table).both
def G27 (call : CL) (n : Nat) (m0 : Mem) (y0 y1 y2 y3 : AV) (m : Mem) : Rho :=
  boxK y0 m fun a0 m1 =>
  boxK y3 m1 fun a2 m3 =>
  makeMapK m3 fun a4 m5 =>
  newK [.nilmap] m5 fun a6 m7 =>
  storeK 1 a6 a4 m7 fun a8 m9 =>
  newK [.nilfunc] m9 fun a10 m11 =>
  storeK 1 a10 (.func 44 [] [a2, a6, a0, a10]) m11 fun a12 m13 =>
  loadK none a10 m13 fun a14 m15 =>
  callK call a14 false [y1, y2] m15 fun a16 m17 =>
  retK false false m0 [a16] m17
theorem g27 (call : CL) (n : Nat) (m0 : Mem) (y0 y1 y2 y3 : AV) (m : Mem) : evK call n b27 [(0, y0), (1, y1), (2, y2), (3, y3)] m (fun e m => endK f27 m0 .nrm e m) (endK f27 m0) = G27 call n m0 y0 y1 y2 y3 m := by kernel_rfl
def S27 (call : CL) (n : Nat) (m0 : Mem) (y0 y1 y2 y3 : AV) : Rho := G27 call n m0 y0 y1 y2 y3 { m0 with bad := none }
theorem s27 (call : CL) (n : Nat) (m0 : Mem) (y0 y1 y2 y3 : AV) : bodyK call n f27 [y0, y1, y2, y3] m0 = S27 call n m0 y0 y1 y2 y3 :=
  have h : bodyK call n f27 [y0, y1, y2, y3] m0 = G27 call n m0 y0 y1 y2 y3 { m0 with bad := none } := Eq.mp (by kernel_rfl) (g27 call n m0 y0 y1 y2 y3 { m0 with bad := none })
  h
def F27 : SF := fun call n vs m0 => unc vs fun x0 vs => unc vs fun x1 vs => unc vs fun x2 vs => unc vs fun x3 vs => unz vs (S27 call n m0 x0 x1 x2 x3)
theorem F27_ok {orc : List AV → Mem → Option (AV × Mem)} : SOk 27 { f27 with orc := orc } F27 := by
  intro call n vs m0 ho r h0
  simp only [F27] at h0
  obtain ⟨y0, v0, rfl, h1⟩ := unc_some h0
  obtain ⟨y1, v1, rfl, h2⟩ := unc_some h1
  obtain ⟨y2, v2, rfl, h3⟩ := unc_some h2
  obtain ⟨y3, v3, rfl, h4⟩ := unc_some h3
  obtain ⟨rfl, hz⟩ := unz_some h4
  exact bodyK_le ho rfl r (Eq.mp (by kernel_rfl) ((s27 call n m0 y0 y1 y2 y3).trans hz))

-- (*resolvent/pos.table).put
def G28_3 (call : CL) (n : Nat) (m0 : Mem) (y0 : AV) (m : Mem) : Rho :=
  vK (aLen m 1 y0) m fun a0 m1 =>
  binK .sub a0 (.int .i64 1) fun a2 =>
  vK (aIndexAddr m1 1 y0 a2) m1 fun a3 m4 =>
  loadK none a3 m4 fun a5 m6 =>
  retK false false m0 [a5] m6
theorem g28_3 (call : CL) (n : Nat) (m0 : Mem) (y0 : AV) (m : Mem) : evK call n b28_3 [(5, y0)] m (fun e m => endK f28 m0 .nrm e m) (endK f28 m0) = G28_3 call n m0 y0 m := by kernel_rfl
def k28_3 (call : CL) (n : Nat) (m0 : Mem) : KN := (fun e m => endK f28 m0 .nrm e m)
def x28_3 (call : CL) (n : Nat) (m0 : Mem) : KX := (endK f28 m0)
def S28_3 (call : CL) (n : Nat) (m0 : Mem) (y0 : AV) (m : Mem) : Rho := G28_3 call n m0 y0 m
def d28_3 (call : CL) (n : Nat) (m0 : Mem) (y0 : AV) (m : Mem) : Rho := evK call n b28_3 [(5, y0)] m (k28_3 call n m0) (x28_3 call n m0)
theorem l28_3 {call : CL} {n : Nat} {m0 : Mem} : d28_3 call n m0 = S28_3 call n m0 := by
  funext y0 m
  have h : d28_3 call n m0 y0 m = G28_3 call n m0 y0 m := Eq.mp (by kernel_rfl) (g28_3 call n m0 y0 m)
  exact h
def G28_4 (call : CL) (n : Nat) (m0 : Mem) (Q28_3 : Y1) (y0 y1 : AV) (m : Mem) : Rho :=
  vK (aFieldAddr 0 1 y0) m fun a0 m1 =>
  loadK none a0 m1 fun a2 m3 =>
  vK (aLen m3 1 a2) m3 fun a4 m5 =>
  binK .eql a4 (.int .i64 0) fun a6 =>
  condK a6
  (vK (aFieldAddr 1 1 y0) m5 fun a7 m8 =>
  loadK none a7 m8 fun a9 m10 =>
  callK call (.func 47 [] []) false [a9] m10 fun a11 m12 =>
  retK false false m0 [a11] m12)
  (Q28_3 y1 m5)
theorem g28_4 (call : CL) (n : Nat) (m0 : Mem) (b28_3 : C) (y0 y1 : AV) (m : Mem) : evK call n (c28_4 b28_3) [(3, y0), (5, y1)] m (fun e m => endK f28 m0 .nrm e m) (endK f28 m0) = G28_4 call n m0 (fun x0 m => evK call n b28_3 [(5, x0)] m (fun e m => endK f28 m0 .nrm e m) (endK f28 m0)) y0 y1 m := by kernel_rfl
def k28_4 (call : CL) (n : Nat) (m0 : Mem) : KN := (fun e m => endK f28 m0 .nrm e m)
def x28_4 (call : CL) (n : Nat) (m0 : Mem) : KX := (endK f28 m0)
def S28_4 (call : CL) (n : Nat) (m0 : Mem) (y0 y1 : AV) (m : Mem) : Rho := G28_4 call n m0 (S28_3 call n m0) y0 y1 m
def d28_4 (call : CL) (n : Nat) (m0 : Mem) (y0 y1 : AV) (m : Mem) : Rho := evK call n b28_4 [(3, y0), (5, y1)] m (k28_4 call n m0) (x28_4 call n m0)
theorem l28_4 {call : CL} {n : Nat} {m0 : Mem} : d28_4 call n m0 = S28_4 call n m0 := by
  funext y0 y1 m
  have h : d28_4 call n m0 y0 y1 m = G28_4 call n m0 (d28_3 call n m0) y0 y1 m := Eq.mp (by kernel_rfl) (g28_4 call n m0 b28_3 y0 y1 m)
  rw [l28_3] at h; exact h
def G28_1 (call : CL) (n : Nat) (kn : KN) (kx : KX) (y0 y1 y2 y3 y4 y5 : AV) (m : Mem) : Rho :=
  vK (aIndexAddr m 3 y3 y5) m fun a0 m1 =>
  loadK (some 3) a0 m1 fun a2 m3 =>
  newK [(.int .i64 0), (.int .i64 0), (.int .i64 0)] m3 fun a4 m5 =>
  storeK 3 a4 a2 m5 fun a6 m7 =>
  vK (aFieldAddr 0 1 a4) m7 fun a8 m9 =>
  loadK none a8 m9 fun a10 m11 =>
  vK (aFieldAddr 1 1 a4) m11 fun a12 m13 =>
  loadK none a12 m13 fun a14 m15 =>
  vK (aIndexAddr m15 1 y2 a14) m15 fun a16 m17 =>
  loadK none a16 m17 fun a18 m19 =>
  vK (aFieldAddr 2 1 a4) m19 fun a20 m21 =>
  loadK none a20 m21 fun a22 m23 =>
  vK (aIndexAddr m23 1 y2 a22) m23 fun a24 m25 =>
  loadK none a24 m25 fun a26 m27 =>
  buildK [(.int .i64 0), (.int .i64 0), (.int .i64 0)] [(0, 1, AV.untag1 a10), (1, 1, AV.untag1 a18), (2, 1, AV.untag1 a26)] fun a28 =>
  callK call (.func 35 [] []) false [y0, a28] m27 fun a29 m30 =>
  buildSliceK 1 [(.int .i64 0)] 1 false [(0 * 1, 1, AV.untag a29)] m30 fun a31 m32 =>
  appendK 1 8 0 y2 a31 m32 fun a33 m34 =>
  cond (stayK [m7, m30, m34] []) (binK .add y5 (.int .i64 1) fun a35 =>
  kn [(0, y0), (3, y1), (5, a33), (10, y3), (11, y4), (12, a35)] m34) none
theorem g28_1 (call : CL) (n : Nat) (kn : KN) (kx : KX) (y0 y1 y2 y3 y4 y5 : AV) (m : Mem) : evK call n b28_1 [(0, y0), (3, y1), (5, y2), (10, y3), (11, y4), (12, y5)] m kn kx = G28_1 call n kn kx y0 y1 y2 y3 y4 y5 m := by kernel_rfl
def k28_1 (call : CL) (n : Nat) (kn : KN) (kx : KX) : KN := kn
def x28_1 (call : CL) (n : Nat) (kn : KN) (kx : KX) : KX := kx
def S28_1 (call : CL) (n : Nat) (kn : KN) (kx : KX) (y0 y1 y2 y3 y4 y5 : AV) (m : Mem) : Rho := G28_1 call n kn kx y0 y1 y2 y3 y4 y5 m
def d28_1 (call : CL) (n : Nat) (kn : KN) (kx : KX) (y0 y1 y2 y3 y4 y5 : AV) (m : Mem) : Rho := evK call n b28_1 [(0, y0), (3, y1), (5, y2), (10, y3), (11, y4), (12, y5)] m (k28_1 call n kn kx) (x28_1 call n kn kx)
theorem l28_1 {call : CL} {n : Nat} {kn : KN} {kx : KX} : d28_1 call n kn kx = S28_1 call n kn kx := by
  funext y0 y1 y2 y3 y4 y5 m
  have h : d28_1 call n kn kx y0 y1 y2 y3 y4 y5 m = G28_1 call n kn kx y0 y1 y2 y3 y4 y5 m := Eq.mp (by kernel_rfl) (g28_1 call n kn kx y0 y1 y2 y3 y4 y5 m)
  exact h
def G28_2 (call : CL) (n : Nat) (kn : KN) (kx : KX) (Q28_1 : Y6) (y0 y1 y2 y3 y4 y5 : AV) (m : Mem) : Rho :=
  binK .lss y5 y4 fun a0 =>
  condK a0
  (Q28_1 y0 y1 y2 y3 y4 y5 m)
  (kx (.ext 0) [(0, y0), (3, y1), (5, y2), (10, y3), (11, y4), (12, y5), (13, a0)] m)
theorem g28_2 (call : CL) (n : Nat) (kn : KN) (kx : KX) (b28_1 : C) (y0 y1 y2 y3 y4 y5 : AV) (m : Mem) : evK call n (c28_2 b28_1) [(0, y0), (3, y1), (5, y2), (10, y3), (11, y4), (12, y5)] m kn kx = G28_2 call n kn kx (fun x0 x1 x2 x3 x4 x5 m => evK call n b28_1 [(0, x0), (3, x1), (5, x2), (10, x3), (11, x4), (12, x5)] m kn kx) y0 y1 y2 y3 y4 y5 m := by kernel_rfl
def S28_2 (call : CL) (n : Nat) (kn : KN) (kx : KX) (y0 y1 y2 y3 y4 y5 : AV) (m : Mem) : Rho := G28_2 call n kn kx (S28_1 call n kn kx) y0 y1 y2 y3 y4 y5 m
def d28_2 (call : CL) (n : Nat) (kn : KN) (kx : KX) (y0 y1 y2 y3 y4 y5 : AV) (m : Mem) : Rho := evK call n b28_2 [(0, y0), (3, y1), (5, y2), (10, y3), (11, y4), (12, y5)] m kn kx
theorem l28_2 {call : CL} {n : Nat} : d28_2 call n = S28_2 call n := by
  funext kn kx y0 y1 y2 y3 y4 y5 m
  have h : d28_2 call n kn kx y0 y1 y2 y3 y4 y5 m = G28_2 call n kn kx (d28_1 call n kn kx) y0 y1 y2 y3 y4 y5 m := Eq.mp (by kernel_rfl) (g28_2 call n kn kx b28_1 y0 y1 y2 y3 y4 y5 m)
  rw [l28_1] at h; exact h
def G28 (call : CL) (n : Nat) (m0 : Mem) (B28_2 : KN → KX → Y6) (Q28_4 : Y2) (y0 y1 : AV) (m : Mem) : Rho :=
  boxK y1 m fun a0 m1 =>
  buildSliceK 1 [(.int .i64 0)] 2 false [(0 * 1, 1, AV.untag (.int .i64 0)), (1 * 1, 1, AV.untag (.int .i64 1))] m1 fun a2 m3 =>
  vK (aFieldAddr 0 1 a0) m3 fun a4 m5 =>
  loadK none a4 m5 fun a6 m7 =>
  vK (aLen m7 1 a6) m7 fun a8 m9 =>
  loopV [0, 3, 5, 10, 11, 12] none (fun vs m kn kx => unc vs fun x0 vs => unc vs fun x1 vs => unc vs fun x2 vs => unc vs fun x3 vs => unc vs fun x4 vs => unc vs fun x5 vs => unz vs (B28_2 kn kx x0 x1 x2 x3 x4 x5 m)) (blkK 0 (fun e m => keepK e [3, 5] fun vs => unc vs fun x0 vs => unc vs fun x1 vs => unz vs (Q28_4 x0 x1 m)) (endK f28 m0)) n [y0, a0, a2, a6, a8, (.int .i64 0)] m9
theorem g28 (call : CL) (n : Nat) (m0 : Mem) (b28_2 : C) (b28_4 : C) (y0 y1 : AV) (m : Mem) : evK call n (c28 b28_2 b28_4) [(0, y0), (1, y1)] m (fun e m => endK f28 m0 .nrm e m) (endK f28 m0) = G28 call n m0 (fun kn kx x0 x1 x2 x3 x4 x5 m => evK call n b28_2 [(0, x0), (3, x1), (5, x2), (10, x3), (11, x4), (12, x5)] m kn kx) (fun x0 x1 m => evK call n b28_4 [(3, x0), (5, x1)] m (fun e m => endK f28 m0 .nrm e m) (endK f28 m0)) y0 y1 m := by kernel_rfl
def S28 (call : CL) (n : Nat) (m0 : Mem) (y0 y1 : AV) : Rho := G28 call n m0 (S28_2 call n) (S28_4 call n m0) y0 y1 { m0 with bad := none }
theorem s28 (call : CL) (n : Nat) (m0 : Mem) (y0 y1 : AV) : bodyK call n f28 [y0, y1] m0 = S28 call n m0 y0 y1 :=
  have h : bodyK call n f28 [y0, y1] m0 = G28 call n m0 (d28_2 call n) (d28_4 call n m0) y0 y1 { m0 with bad := none } := Eq.mp (by kernel_rfl) (g28 call n m0 b28_2 b28_4 y0 y1 { m0 with bad := none })
  by rw [l28_2, l28_4] at h; exact h
def F28 : SF := fun call n vs m0 => unc vs fun x0 vs => unc vs fun x1 vs => unz vs (S28 call n m0 x0 x1)
theorem F28_ok {orc : List AV → Mem → Option (AV × Mem)} : SOk 28 { f28 with orc := orc } F28 := by
  intro call n vs m0 ho r h0
  simp only [F28] at h0
  obtain ⟨y0, v0, rfl, h1⟩ := unc_some h0
  obtain ⟨y1, v1, rfl, h2⟩ := unc_some h1
  obtain ⟨rfl, hz⟩ := unz_some h2
  exact bodyK_le ho rfl r (Eq.mp (by kernel_rfl) ((s28 call n m0 y0 y1).trans hz))

-- resolvent/pos.and
def G29_0 (call : CL) (n : Nat) (m0 : Mem) (m : Mem) : Rho :=
  retK false false m0 [(.int .i64 0), (.bool false)] m
theorem g29_0 (call : CL) (n : Nat) (m0 : Mem) (m : Mem) : evK call n b29_0 [] m (fun e m => endK f29 m0 .nrm e m) (endK f29 m0) = G29_0 call n m0 m := by kernel_rfl
def k29_0 (call : CL) (n : Nat) (m0 : Mem) : KN := (fun e m => endK f29 m0 .nrm e m)
def x29_0 (call : CL) (n : Nat) (m0 : Mem) : KX := (endK f29 m0)
def S29_0 (call : CL) (n : Nat) (m0 : Mem) (m : Mem) : Rho := G29_0 call n m0 m
def d29_0 (call : CL) (n : Nat) (m0 : Mem) (m : Mem) : Rho := evK call n b29_0 [] m (k29_0 call n m0) (x29_0 call n m0)
theorem l29_0 {call : CL} {n : Nat} {m0 : Mem} : d29_0 call n m0 = S29_0 call n m0 := by
  funext m
  have h : d29_0 call n m0 m = G29_0 call n m0 m := Eq.mp (by kernel_rfl) (g29_0 call n m0 m)
  exact h
def G29 (call : CL) (n : Nat) (m0 : Mem) (Q29_0 : Y0) (y0 y1 : AV) (m : Mem) : Rho :=
  binK .eql y0 (.int .i64 0) fun a0 =>
  gK a0 false (fun k => k y1 m) m fun a1 m2 =>
  gK a0 false (fun k => binK .eql a1 (.int .i64 0) fun a3 =>
  k a3 m2) m2 fun a4 m5 =>
  pickK a0 (some (.bool true)) (some a4) fun a6 =>
  condK a6
  (retK false false m0 [(.int .i64 0), (.bool true)] m5)
  (binK .eql y0 (.int .i64 1) fun a7 =>
  condK a7
  (retK false false m0 [y1, (.bool true)] m5)
  (binK .eql y1 (.int .i64 1) fun a8 =>
  gK a8 false (fun k => k y0 m5) m5 fun a9 m10 =>
  gK a8 false (fun k => k y1 m10) m10 fun a11 m12 =>
  gK a8 false (fun k => binK .eql a9 a11 fun a13 =>
  k a13 m12) m12 fun a14 m15 =>
  pickK a8 (some (.bool true)) (some a14) fun a16 =>
  condK a16
  (retK false false m0 [y0, (.bool true)] m15)
  (Q29_0 m15)))
theorem g29 (call : CL) (n : Nat) (m0 : Mem) (b29_0 : C) (y0 y1 : AV) (m : Mem) : evK call n (c29 b29_0) [(0, y0), (1, y1)] m (fun e m => endK f29 m0 .nrm e m) (endK f29 m0) = G29 call n m0 (fun m => evK call n b29_0 [] m (fun e m => endK f29 m0 .nrm e m) (endK f29 m0)) y0 y1 m := by kernel_rfl
def S29 (call : CL) (n : Nat) (m0 : Mem) (y0 y1 : AV) : Rho := G29 call n m0 (S29_0 call n m0) y0 y1 { m0 with bad := none }
theorem s29 (call : CL) (n : Nat) (m0 : Mem) (y0 y1 : AV) : bodyK call n f29 [y0, y1] m0 = S29 call n m0 y0 y1 :=
  have h : bodyK call n f29 [y0, y1] m0 = G29 call n m0 (d29_0 call n m0) y0 y1 { m0 with bad := none } := Eq.mp (by kernel_rfl) (g29 call n m0 b29_0 y0 y1 { m0 with bad := none })
  by rw [l29_0] at h; exact h
def F29 : SF := fun call n vs m0 => unc vs fun x0 vs => unc vs fun x1 vs => unz vs (S29 call n m0 x0 x1)
theorem F29_ok {orc : List AV → Mem → Option (AV × Mem)} : SOk 29 { f29 with orc := orc } F29 := by
  intro call n vs m0 ho r h0
  simp only [F29] at h0
  obtain ⟨y0, v0, rfl, h1⟩ := unc_some h0
  obtain ⟨y1, v1, rfl, h2⟩ := unc_some h1
  obtain ⟨rfl, hz⟩ := unz_some h2
  exact bodyK_le ho rfl r (Eq.mp (by kernel_rfl) ((s29 call n m0 y0 y1).trans hz))

-- (*resolvent/pos.table).opposite
def G30_1 (call : CL) (n : Nat) (m0 : Mem) (y0 y1 : AV) (m : Mem) : Rho :=
  nilK y0 fun a0 =>
  vK (aFieldAddr 0 1 a0) m fun a1 m2 =>
  loadK none a1 m2 fun a3 m4 =>
  binK .sub y1 (.int .i64 2) fun a5 =>
  vK (aIndexAddr m4 3 a3 a5) m4 fun a6 m7 =>
  loadK (some 3) a6 m7 fun a8 m9 =>
  newK [(.int .i64 0), (.int .i64 0), (.int .i64 0)] m9 fun a10 m11 =>
  storeK 3 a10 a8 m11 fun a12 m13 =>
  vK (aFieldAddr 1 1 a10) m13 fun a14 m15 =>
  loadK none a14 m15 fun a16 m17 =>
  callK call (.func 30 [] []) false [y0, a16] m17 fun a18 m19 =>
  vK (aFieldAddr 0 1 a10) m19 fun a20 m21 =>
  loadK none a20 m21 fun a22 m23 =>
  vK (aFieldAddr 2 1 a10) m23 fun a24 m25 =>
  loadK none a24 m25 fun a26 m27 =>
  callK call (.func 30 [] []) false [y0, a26] m27 fun a28 m29 =>
  buildK [(.int .i64 0), (.int .i64 0), (.int .i64 0)] [(0, 1, AV.untag1 a22), (1, 1, AV.untag1 a18), (2, 1, AV.untag1 a28)] fun a30 =>
  callK call (.func 35 [] []) false [y0, a30] m29 fun a31 m32 =>
  cond (stayK [m19, m29, m32] [(fun m => m.load none a20, a22, 0, 2, true)]) (retK false false m0 [a31] m32) none
theorem g30_1 (call : CL) (n : Nat) (m0 : Mem) (y0 y1 : AV) (m : Mem) : evK call n b30_1 [(0, y0), (1, y1)] m (fun e m => endK f30 m0 .nrm e m) (endK f30 m0) = G30_1 call n m0 y0 y1 m := by kernel_rfl
def k30_1 (call : CL) (n : Nat) (m0 : Mem) : KN := (fun e m => endK f30 m0 .nrm e m)
def x30_1 (call : CL) (n : Nat) (m0 : Mem) : KX := (endK f30 m0)
def S30_1 (call : CL) (n : Nat) (m0 : Mem) (y0 y1 : AV) (m : Mem) : Rho := G30_1 call n m0 y0 y1 m
def d30_1 (call : CL) (n : Nat) (m0 : Mem) (y0 y1 : AV) (m : Mem) : Rho := evK call n b30_1 [(0, y0), (1, y1)] m (k30_1 call n m0) (x30_1 call n m0)
theorem l30_1 {call : CL} {n : Nat} {m0 : Mem} : d30_1 call n m0 = S30_1 call n m0 := by
  funext y0 y1 m
  have h : d30_1 call n m0 y0 y1 m = G30_1 call n m0 y0 y1 m := Eq.mp (by kernel_rfl) (g30_1 call n m0 y0 y1 m)
  exact h
def G30 (call : CL) (n : Nat) (m0 : Mem) (Q30_1 : Y2) (y0 y1 : AV) (m : Mem) : Rho :=
  binK .lss y1 (.int .i64 2) fun a0 =>
  condK a0
  (binK .sub (.int .i64 1) y1 fun a1 =>
  retK false false m0 [a1] m)
  (Q30_1 y0 y1 m)
theorem g30 (call : CL) (n : Nat) (m0 : Mem) (b30_1 : C) (y0 y1 : AV) (m : Mem) : evK call n (c30 b30_1) [(0, y0), (1, y1)] m (fun e m => endK f30 m0 .nrm e m) (endK f30 m0) = G30 call n m0 (fun x0 x1 m => evK call n b30_1 [(0, x0), (1, x1)] m (fun e m => endK f30 m0 .nrm e m) (endK f30 m0)) y0 y1 m := by kernel_rfl
def S30 (call : CL) (n : Nat) (m0 : Mem) (y0 y1 : AV) : Rho := G30 call n m0 (S30_1 call n m0) y0 y1 { m0 with bad := none }
theorem s30 (call : CL) (n : Nat) (m0 : Mem) (y0 y1 : AV) : bodyK call n f30 [y0, y1] m0 = S30 call n m0 y0 y1 :=
  have h : bodyK call n f30 [y0, y1] m0 = G30 call n m0 (d30_1 call n m0) y0 y1 { m0 with bad := none } := Eq.mp (by kernel_rfl) (g30 call n m0 b30_1 y0 y1 { m0 with bad := none })
  by rw [l30_1] at h; exact h
def F30 : SF := fun call n vs m0 => unc vs fun x0 vs => unc vs fun x1 vs => unz vs (S30 call n m0 x0 x1)
theorem F30_ok {orc : List AV → Mem → Option (AV × Mem)} : SOk 30 { f30 with orc := orc } F30 := by
  intro call n vs m0 ho r h0
  simp only [F30] at h0
  obtain ⟨y0, v0, rfl, h1⟩ := unc_some h0
  obtain ⟨y1, v1, rfl, h2⟩ := unc_some h1
  obtain ⟨rfl, hz⟩ := unz_some h2
  exact bodyK_le ho rfl r (Eq.mp (by kernel_rfl) ((s30 call n m0 y0 y1).trans hz))

-- resolvent/pos.or
def G31_0 (call : CL) (n : Nat) (m0 : Mem) (m : Mem) : Rho :=
  retK false false m0 [(.int .i64 0), (.bool false)] m
theorem g31_0 (call : CL) (n : Nat) (m0 : Mem) (m : Mem) : evK call n b31_0 [] m (fun e m => endK f31 m0 .nrm e m) (endK f31 m0) = G31_0 call n m0 m := by kernel_rfl
def k31_0 (call : CL) (n : Nat) (m0 : Mem) : KN := (fun e m => endK f31 m0 .nrm e m)
def x31_0 (call : CL) (n : Nat) (m0 : Mem) : KX := (endK f31 m0)
def S31_0 (call : CL) (n : Nat) (m0 : Mem) (m : Mem) : Rho := G31_0 call n m0 m
def d31_0 (call : CL) (n : Nat) (m0 : Mem) (m : Mem) : Rho := evK call n b31_0 [] m (k31_0 call n m0) (x31_0 call n m0)
theorem l31_0 {call : CL} {n : Nat} {m0 : Mem} : d31_0 call n m0 = S31_0 call n m0 := by
  funext m
  have h : d31_0 call n m0 m = G31_0 call n m0 m := Eq.mp (by kernel_rfl) (g31_0 call n m0 m)
  exact h
def G31 (call : CL) (n : Nat) (m0 : Mem) (Q31_0 : Y0) (y0 y1 : AV) (m : Mem) : Rho :=
  binK .eql y0 (.int .i64 1) fun a0 =>
  gK a0 false (fun k => k y1 m) m fun a1 m2 =>
  gK a0 false (fun k => binK .eql a1 (.int .i64 1) fun a3 =>
  k a3 m2) m2 fun a4 m5 =>
  pickK a0 (some (.bool true)) (some a4) fun a6 =>
  condK a6
  (retK false false m0 [(.int .i64 1), (.bool true)] m5)
  (binK .eql y0 (.int .i64 0) fun a7 =>
  condK a7
  (retK false false m0 [y1, (.bool true)] m5)
  (binK .eql y1 (.int .i64 0) fun a8 =>
  gK a8 false (fun k => k y0 m5) m5 fun a9 m10 =>
  gK a8 false (fun k => k y1 m10) m10 fun a11 m12 =>
  gK a8 false (fun k => binK .eql a9 a11 fun a13 =>
  k a13 m12) m12 fun a14 m15 =>
  pickK a8 (some (.bool true)) (some a14) fun a16 =>
  condK a16
  (retK false false m0 [y0, (.bool true)] m15)
  (Q31_0 m15)))
theorem g31 (call : CL) (n : Nat) (m0 : Mem) (b31_0 : C) (y0 y1 : AV) (m : Mem) : evK call n (c31 b31_0) [(0, y0), (1, y1)] m (fun e m => endK f31 m0 .nrm e m) (endK f31 m0) = G31 call n m0 (fun m => evK call n b31_0 [] m (fun e m => endK f31 m0 .nrm e m) (endK f31 m0)) y0 y1 m := by kernel_rfl
def S31 (call : CL) (n : Nat) (m0 : Mem) (y0 y1 : AV) : Rho := G31 call n m0 (S31_0 call n m0) y0 y1 { m0 with bad := none }
theorem s31 (call : CL) (n : Nat) (m0 : Mem) (y0 y1 : AV) : bodyK call n f31 [y0, y1] m0 = S31 call n m0 y0 y1 :=
  have h : bodyK call n f31 [y0, y1] m0 = G31 call n m0 (d31_0 call n m0) y0 y1 { m0 with bad := none } := Eq.mp (by kernel_rfl) (g31 call n m0 b31_0 y0 y1 { m0 with bad := none })
  by rw [l31_0] at h; exact h
def F31 : SF := fun call n vs m0 => unc vs fun x0 vs => unc vs fun x1 vs => unz vs (S31 call n m0 x0 x1)
theorem F31_ok {orc : List AV → Mem → Option (AV × Mem)} : SOk 31 { f31 with orc := orc } F31 := by
  intro call n vs m0 ho r h0
  simp only [F31] at h0
  obtain ⟨y0, v0, rfl, h1⟩ := unc_some h0
  obtain ⟨y1, v1, rfl, h2⟩ := unc_some h1
  obtain ⟨rfl, hz⟩ := unz_some h2
  exact bodyK_le ho rfl r (Eq.mp (by kernel_rfl) ((s31 call n m0 y0 y1).trans hz))

-- strconv.FormatBool
def G32 (call : CL) (n : Nat) (m0 : Mem) (y0 : AV) (m : Mem) : Rho :=
  callK call (.func 48 [] []) false [y0] m fun a0 m1 =>
  retK false false m0 [a0] m1
theorem g32 (call : CL) (n : Nat) (m0 : Mem) (y0 : AV) (m : Mem) : evK call n b32 [(0, y0)] m (fun e m => endK f32 m0 .nrm e m) (endK f32 m0) = G32 call n m0 y0 m := by kernel_rfl
def S32 (call : CL) (n : Nat) (m0 : Mem) (y0 : AV) : Rho := G32 call n m0 y0 { m0 with bad := none }
theorem s32 (call : CL) (n : Nat) (m0 : Mem) (y0 : AV) : bodyK call n f32 [y0] m0 = S32 call n m0 y0 :=
  have h : bodyK call n f32 [y0] m0 = G32 call n m0 y0 { m0 with bad := none } := Eq.mp (by kernel_rfl) (g32 call n m0 y0 { m0 with bad := none })
  h
def F32 : SF := fun call n vs m0 => unc vs fun x0 vs => unz vs (S32 call n m0 x0)
theorem F32_ok {orc : List AV → Mem → Option (AV × Mem)} : SOk 32 { f32 with orc := orc } F32 := by
  intro call n vs m0 ho r h0
  simp only [F32] at h0
  obtain ⟨y0, v0, rfl, h1⟩ := unc_some h0
  obtain ⟨rfl, hz⟩ := unz_some h1
  exact bodyK_le ho rfl r (Eq.mp (by kernel_rfl) ((s32 call n m0 y0).trans hz))

-- slices.Equal[[]resolvent/pos.node,resolvent/pos.node]
def G34_4 (call : CL) (n : Nat) (m0 : Mem) (m : Mem) : Rho :=
  retK false false m0 [(.bool true)] m
theorem g34_4 (call : CL) (n : Nat) (m0 : Mem) (m : Mem) : evK call n b34_4 [] m (fun e m => endK f34 m0 .nrm e m) (endK f34 m0) = G34_4 call n m0 m := by kernel_rfl
def k34_4 (call : CL) (n : Nat) (m0 : Mem) : KN := (fun e m => endK f34 m0 .nrm e m)
def x34_4 (call : CL) (n : Nat) (m0 : Mem) : KX := (endK f34 m0)
def S34_4 (call : CL) (n : Nat) (m0 : Mem) (m : Mem) : Rho := G34_4 call n m0 m
def d34_4 (call : CL) (n : Nat) (m0 : Mem) (m : Mem) : Rho := evK call n b34_4 [] m (k34_4 call n m0) (x34_4 call n m0)
theorem l34_4 {call : CL} {n : Nat} {m0 : Mem} : d34_4 call n m0 = S34_4 call n m0 := by
  funext m
  have h : d34_4 call n m0 m = G34_4 call n m0 m := Eq.mp (by kernel_rfl) (g34_4 call n m0 m)
  exact h
def G34_1 (call : CL) (n : Nat) (kn : KN) (kx : KX) (y0 y1 y2 y3 : AV) (m : Mem) : Rho :=
  binK .add y3 (.int .i64 1) fun a0 =>
  kn [(0, y0), (1, y1), (12, y2), (13, a0)] m
theorem g34_1 (call : CL) (n : Nat) (kn : KN) (kx : KX) (y0 y1 y2 y3 : AV) (m : Mem) : evK call n b34_1 [(0, y0), (1, y1), (12, y2), (13, y3)] m kn kx = G34_1 call n kn kx y0 y1 y2 y3 m := by kernel_rfl
def k34_1 (call : CL) (n : Nat) (kn : KN) (kx : KX) : KN := kn
def x34_1 (call : CL) (n : Nat) (kn : KN) (kx : KX) : KX := kx
def S34_1 (call : CL) (n : Nat) (kn : KN) (kx : KX) (y0 y1 y2 y3 : AV) (m : Mem) : Rho := G34_1 call n kn kx y0 y1 y2 y3 m
def d34_1 (call : CL) (n : Nat) (kn : KN) (kx : KX) (y0 y1 y2 y3 : AV) (m : Mem) : Rho := evK call n b34_1 [(0, y0), (1, y1), (12, y2), (13, y3)] m (k34_1 call n kn kx) (x34_1 call n kn kx)
theorem l34_1 {call : CL} {n : Nat} {kn : KN} {kx : KX} : d34_1 call n kn kx = S34_1 call n kn kx := by
  funext y0 y1 y2 y3 m
  have h : d34_1 call n kn kx y0 y1 y2 y3 m = G34_1 call n kn kx y0 y1 y2 y3 m := Eq.mp (by kernel_rfl) (g34_1 call n kn kx y0 y1 y2 y3 m)
  exact h
def G34_2 (call : CL) (n : Nat) (kn : KN) (kx : KX) (Q34_1 : Y4) (y0 y1 y2 y3 : AV) (m : Mem) : Rho :=
  vK (aIndexAddr m 3 y0 y3) m fun a0 m1 =>
  loadK (some 3) a0 m1 fun a2 m3 =>
  vK (aIndexAddr m3 3 y1 y3) m3 fun a4 m5 =>
  loadK (some 3) a4 m5 fun a6 m7 =>
  eqvK ⟨[.i, .i, .i], true⟩ true a2 a6 fun a8 =>
  condK a8
  (kx .ret [(4, (.bool false))] m7)
  (Q34_1 y0 y1 y2 y3 m7)
theorem g34_2 (call : CL) (n : Nat) (kn : KN) (kx : KX) (b34_1 : C) (y0 y1 y2 y3 : AV) (m : Mem) : evK call n (c34_2 b34_1) [(0, y0), (1, y1), (12, y2), (13, y3)] m kn kx = G34_2 call n kn kx (fun x0 x1 x2 x3 m => evK call n b34_1 [(0, x0), (1, x1), (12, x2), (13, x3)] m kn kx) y0 y1 y2 y3 m := by kernel_rfl
def k34_2 (call : CL) (n : Nat) (kn : KN) (kx : KX) : KN := kn
def x34_2 (call : CL) (n : Nat) (kn : KN) (kx : KX) : KX := kx
def S34_2 (call : CL) (n : Nat) (kn : KN) (kx : KX) (y0 y1 y2 y3 : AV) (m : Mem) : Rho := G34_2 call n kn kx (S34_1 call n kn kx) y0 y1 y2 y3 m
def d34_2 (call : CL) (n : Nat) (kn : KN) (kx : KX) (y0 y1 y2 y3 : AV) (m : Mem) : Rho := evK call n b34_2 [(0, y0), (1, y1), (12, y2), (13, y3)] m (k34_2 call n kn kx) (x34_2 call n kn kx)
theorem l34_2 {call : CL} {n : Nat} {kn : KN} {kx : KX} : d34_2 call n kn kx = S34_2 call n kn kx := by
  funext y0 y1 y2 y3 m
  have h : d34_2 call n kn kx y0 y1 y2 y3 m = G34_2 call n kn kx (d34_1 call n kn kx) y0 y1 y2 y3 m := Eq.mp (by kernel_rfl) (g34_2 call n kn kx b34_1 y0 y1 y2 y3 m)
  rw [l34_1] at h; exact h
def G34_3 (call : CL) (n : Nat) (kn : KN) (kx : KX) (Q34_2 : Y4) (y0 y1 y2 y3 : AV) (m : Mem) : Rho :=
  binK .lss y3 y2 fun a0 =>
  condK a0
  (Q34_2 y0 y1 y2 y3 m)
  (kx (.ext 0) [(0, y0), (1, y1), (12, y2), (13, y3), (14, a0)] m)
theorem g34_3 (call : CL) (n : Nat) (kn : KN) (kx : KX) (b34_2 : C) (y0 y1 y2 y3 : AV) (m : Mem) : evK call n (c34_3 b34_2) [(0, y0), (1, y1), (12, y2), (13, y3)] m kn kx = G34_3 call n kn kx (fun x0 x1 x2 x3 m => evK call n b34_2 [(0, x0), (1, x1), (12, x2), (13, x3)] m kn kx) y0 y1 y2 y3 m := by kernel_rfl
def S34_3 (call : CL) (n : Nat) (kn : KN) (kx : KX) (y0 y1 y2 y3 : AV) (m : Mem) : Rho := G34_3 call n kn kx (S34_2 call n kn kx) y0 y1 y2 y3 m
def d34_3 (call : CL) (n : Nat) (kn : KN) (kx : KX) (y0 y1 y2 y3 : AV) (m : Mem) : Rho := evK call n b34_3 [(0, y0), (1, y1), (12, y2), (13, y3)] m kn kx
theorem l34_3 {call : CL} {n : Nat} : d34_3 call n = S34_3 call n := by
  funext kn kx y0 y1 y2 y3 m
  have h : d34_3 call n kn kx y0 y1 y2 y3 m = G34_3 call n kn kx (d34_2 call n kn kx) y0 y1 y2 y3 m := Eq.mp (by kernel_rfl) (g34_3 call n kn kx b34_2 y0 y1 y2 y3 m)
  rw [l34_2] at h; exact h
def G34_5 (call : CL) (n : Nat) (m0 : Mem) (B34_3 : KN → KX → Y4) (Q34_4 : Y0) (y0 y1 : AV) (m : Mem) : Rho :=
  vK (aLen m 1 y0) m fun a0 m1 =>
  loopV [0, 1, 12, 13] none (fun vs m kn kx => unc vs fun x0 vs => unc vs fun x1 vs => unc vs fun x2 vs => unc vs fun x3 vs => unz vs (B34_3 kn kx x0 x1 x2 x3 m)) (blkK 0 (fun e m => keepK e [] fun vs => unz vs (Q34_4 m)) (endK f34 m0)) n [y0, y1, a0, (.int .i64 0)] m1
theorem g34_5 (call : CL) (n : Nat) (m0 : Mem) (b34_3 : C) (b34_4 : C) (y0 y1 : AV) (m : Mem) : evK call n (c34_5 b34_3 b34_4) [(0, y0), (1, y1)] m (fun e m => endK f34 m0 .nrm e m) (endK f34 m0) = G34_5 call n m0 (fun kn kx x0 x1 x2 x3 m => evK call n b34_3 [(0, x0), (1, x1), (12, x2), (13, x3)] m kn kx) (fun m => evK call n b34_4 [] m (fun e m => endK f34 m0 .nrm e m) (endK f34 m0)) y0 y1 m := by kernel_rfl
def k34_5 (call : CL) (n : Nat) (m0 : Mem) : KN := (fun e m => endK f34 m0 .nrm e m)
def x34_5 (call : CL) (n : Nat) (m0 : Mem) : KX := (endK f34 m0)
def S34_5 (call : CL) (n : Nat) (m0 : Mem) (y0 y1 : AV) (m : Mem) : Rho := G34_5 call n m0 (S34_3 call n) (S34_4 call n m0) y0 y1 m
def d34_5 (call : CL) (n : Nat) (m0 : Mem) (y0 y1 : AV) (m : Mem) : Rho := evK call n b34_5 [(0, y0), (1, y1)] m (k34_5 call n m0) (x34_5 call n m0)
theorem l34_5 {call : CL} {n : Nat} {m0 : Mem} : d34_5 call n m0 = S34_5 call n m0 := by
  funext y0 y1 m
  have h : d34_5 call n m0 y0 y1 m = G34_5 call n m0 (d34_3 call n) (d34_4 call n m0) y0 y1 m := Eq.mp (by kernel_rfl) (g34_5 call n m0 b34_3 b34_4 y0 y1 m)
  rw [l34_3, l34_4] at h; exact h
def G34 (call : CL) (n : Nat) (m0 : Mem) (Q34_5 : Y2) (y0 y1 : AV) (m : Mem) : Rho :=
  vK (aLen m 1 y0) m fun a0 m1 =>
  vK (aLen m1 1 y1) m1 fun a2 m3 =>
  binK .neq a0 a2 fun a4 =>
  condK a4
  (retK false false m0 [(.bool false)] m3)
  (Q34_5 y0 y1 m3)
theorem g34 (call : CL) (n : Nat) (m0 : Mem) (b34_5 : C) (y0 y1 : AV) (m : Mem) : evK call n (c34 b34_5) [(0, y0), (1, y1)] m (fun e m => endK f34 m0 .nrm e m) (endK f34 m0) = G34 call n m0 (fun x0 x1 m => evK call n b34_5 [(0, x0), (1, x1)] m (fun e m => endK f34 m0 .nrm e m) (endK f34 m0)) y0 y1 m := by kernel_rfl
def S34 (call : CL) (n : Nat) (m0 : Mem) (y0 y1 : AV) : Rho := G34 call n m0 (S34_5 call n m0) y0 y1 { m0 with bad := none }
theorem s34 (call : CL) (n : Nat) (m0 : Mem) (y0 y1 : AV) : bodyK call n f34 [y0, y1] m0 = S34 call n m0 y0 y1 :=
  have h : bodyK call n f34 [y0, y1] m0 = G34 call n m0 (d34_5 call n m0) y0 y1 { m0 with bad := none } := Eq.mp (by kernel_rfl) (g34 call n m0 b34_5 y0 y1 { m0 with bad := none })
  by rw [l34_5] at h; exact h
def F34 : SF := fun call n vs m0 => unc vs fun x0 vs => unc vs fun x1 vs => unz vs (S34 call n m0 x0 x1)
theorem F34_ok {orc : List AV → Mem → Option (AV × Mem)} : SOk 34 { f34 with orc := orc } F34 := by
  intro call n vs m0 ho r h0
  simp only [F34] at h0
  obtain ⟨y0, v0, rfl, h1⟩ := unc_some h0
  obtain ⟨y1, v1, rfl, h2⟩ := unc_some h1
  obtain ⟨rfl, hz⟩ := unz_some h2
  exact bodyK_le ho rfl r (Eq.mp (by kernel_rfl) ((s34 call n m0 y0 y1).trans hz))

-- (*resolvent/pos.table).make
def G35_4 (call : CL) (n : Nat) (m0 : Mem) (y0 y1 : AV) (m : Mem) : Rho :=
  nilK y0 fun a0 =>
  vK (aFieldAddr 1 1 a0) m fun a1 m2 =>
  loadK none a1 m2 fun a3 m4 =>
  loadK (some 3) y1 m4 fun a5 m6 =>
  lookupK ⟨[.i, .i, .i], true⟩ (.int .i64 0) false a3 a5 m6 fun a7 =>
  retK false false m0 [a7] m6
theorem g35_4 (call : CL) (n : Nat) (m0 : Mem) (y0 y1 : AV) (m : Mem) : evK call n b35_4 [(0, y0), (3, y1)] m (fun e m => endK f35 m0 .nrm e m) (endK f35 m0) = G35_4 call n m0 y0 y1 m := by kernel_rfl
def k35_4 (call : CL) (n : Nat) (m0 : Mem) : KN := (fun e m => endK f35 m0 .nrm e m)
def x35_4 (call : CL) (n : Nat) (m0 : Mem) : KX := (endK f35 m0)
def S35_4 (call : CL) (n : Nat) (m0 : Mem) (y0 y1 : AV) (m : Mem) : Rho := G35_4 call n m0 y0 y1 m
def d35_4 (call : CL) (n : Nat) (m0 : Mem) (y0 y1 : AV) (m : Mem) : Rho := evK call n b35_4 [(0, y0), (3, y1)] m (k35_4 call n m0) (x35_4 call n m0)
theorem l35_4 {call : CL} {n : Nat} {m0 : Mem} : d35_4 call n m0 = S35_4 call n m0 := by
  funext y0 y1 m
  have h : d35_4 call n m0 y0 y1 m = G35_4 call n m0 y0 y1 m := Eq.mp (by kernel_rfl) (g35_4 call n m0 y0 y1 m)
  exact h
def G35_5 (call : CL) (n : Nat) (m0 : Mem) (Q35_4 : Y2) (y0 y1 : AV) (m : Mem) : Rho :=
  nilK y0 fun a0 =>
  vK (aFieldAddr 1 1 a0) m fun a1 m2 =>
  loadK none a1 m2 fun a3 m4 =>
  loadK (some 3) y1 m4 fun a5 m6 =>
  lookupK ⟨[.i, .i, .i], true⟩ (.int .i64 0) true a3 a5 m6 fun a7 =>
  extractK a7 0 fun a8 =>
  extractK a7 1 fun a9 =>
  unK .not a9 fun a10 =>
  condK a10
  (nilK y0 fun a11 =>
  vK (aFieldAddr 0 1 a11) m6 fun a12 m13 =>
  loadK none a12 m13 fun a14 m15 =>
  loadK (some 3) y1 m15 fun a16 m17 =>
  buildSliceK 3 [(.int .i64 0), (.int .i64 0), (.int .i64 0)] 1 false [(0 * 3, 3, AV.untag a16)] m17 fun a18 m19 =>
  appendK 3 24 0 a14 a18 m19 fun a20 m21 =>
  nilK y0 fun a22 =>
  vK (aFieldAddr 0 1 a22) m21 fun a23 m24 =>
  storeK 1 a23 a20 m24 fun a25 m26 =>
  cond (stayK [m6, m21, m26] []) (nilK y0 fun a27 =>
  vK (aFieldAddr 1 1 a27) m26 fun a28 m29 =>
  loadK none a28 m29 fun a30 m31 =>
  loadK (some 3) y1 m31 fun a32 m33 =>
  nilK y0 fun a34 =>
  vK (aFieldAddr 0 1 a34) m33 fun a35 m36 =>
  loadK none a35 m36 fun a37 m38 =>
  vK (aLen m38 1 a37) m38 fun a39 m40 =>
  binK .add a39 (.int .i64 1) fun a41 =>
  mapUpdateK ⟨[.i, .i, .i], true⟩ a30 a32 a41 m40 fun a42 m43 =>
  cond (stayK [m26, m43] []) (Q35_4 y0 y1 m43) none) none)
  (Q35_4 y0 y1 m6)
theorem g35_5 (call : CL) (n : Nat) (m0 : Mem) (b35_4 : C) (y0 y1 : AV) (m : Mem) : evK call n (c35_5 b35_4) [(0, y0), (3, y1)] m (fun e m => endK f35 m0 .nrm e m) (endK f35 m0) = G35_5 call n m0 (fun x0 x1 m => evK call n b35_4 [(0, x0), (3, x1)] m (fun e m => endK f35 m0 .nrm e m) (endK f35 m0)) y0 y1 m := by kernel_rfl
def k35_5 (call : CL) (n : Nat) (m0 : Mem) : KN := (fun e m => endK f35 m0 .nrm e m)
def x35_5 (call : CL) (n : Nat) (m0 : Mem) : KX := (endK f35 m0)
def S35_5 (call : CL) (n : Nat) (m0 : Mem) (y0 y1 : AV) (m : Mem) : Rho := G35_5 call n m0 (S35_4 call n m0) y0 y1 m
def d35_5 (call : CL) (n : Nat) (m0 : Mem) (y0 y1 : AV) (m : Mem) : Rho := evK call n b35_5 [(0, y0), (3, y1)] m (k35_5 call n m0) (x35_5 call n m0)
theorem l35_5 {call : CL} {n : Nat} {m0 : Mem} : d35_5 call n m0 = S35_5 call n m0 := by
  funext y0 y1 m
  have h : d35_5 call n m0 y0 y1 m = G35_5 call n m0 (d35_4 call n m0) y0 y1 m := Eq.mp (by kernel_rfl) (g35_5 call n m0 b35_4 y0 y1 m)
  rw [l35_4] at h; exact h
def G35 (call : CL) (n : Nat) (m0 : Mem) (Q35_5 : Y2) (y0 y1 : AV) (m : Mem) : Rho :=
  boxK y1 m fun a0 m1 =>
  vK (aFieldAddr 1 1 a0) m1 fun a2 m3 =>
  loadK none a2 m3 fun a4 m5 =>
  vK (aFieldAddr 2 1 a0) m5 fun a6 m7 =>
  loadK none a6 m7 fun a8 m9 =>
  binK .eql a4 a8 fun a10 =>
  condK a10
  (vK (aFieldAddr 1 1 a0) m9 fun a11 m12 =>
  loadK none a11 m12 fun a13 m14 =>
  retK false false m0 [a13] m14)
  (Q35_5 y0 a0 m9)
theorem g35 (call : CL) (n : Nat) (m0 : Mem) (b35_5 : C) (y0 y1 : AV) (m : Mem) : evK call n (c35 b35_5) [(0, y0), (1, y1)] m (fun e m => endK f35 m0 .nrm e m) (endK f35 m0) = G35 call n m0 (fun x0 x1 m => evK call n b35_5 [(0, x0), (3, x1)] m (fun e m => endK f35 m0 .nrm e m) (endK f35 m0)) y0 y1 m := by kernel_rfl
def S35 (call : CL) (n : Nat) (m0 : Mem) (y0 y1 : AV) : Rho := G35 call n m0 (S35_5 call n m0) y0 y1 { m0 with bad := none }
theorem s35 (call : CL) (n : Nat) (m0 : Mem) (y0 y1 : AV) : bodyK call n f35 [y0, y1] m0 = S35 call n m0 y0 y1 :=
  have h : bodyK call n f35 [y0, y1] m0 = G35 call n m0 (d35_5 call n m0) y0 y1 { m0 with bad := none } := Eq.mp (by kernel_rfl) (g35 call n m0 b35_5 y0 y1 { m0 with bad := none })
  by rw [l35_5] at h; exact h
def F35 : SF := fun call n vs m0 => unc vs fun x0 vs => unc vs fun x1 vs => unz vs (S35 call n m0 x0 x1)
theorem F35_ok {orc : List AV → Mem → Option (AV × Mem)} : SOk 35 { f35 with orc := orc } F35 := by
  intro call n vs m0 ho r h0
  simp only [F35] at h0
  obtain ⟨y0, v0, rfl, h1⟩ := unc_some h0
  obtain ⟨y1, v1, rfl, h2⟩ := unc_some h1
  obtain ⟨rfl, hz⟩ := unz_some h2
  exact bodyK_le ho rfl r (Eq.mp (by kernel_rfl) ((s35 call n m0 y0 y1).trans hz))

-- (*resolvent/pos.table).take
def G36_0 (call : CL) (n : Nat) (m0 : Mem) (y0 y1 : AV) (m : Mem) : Rho :=
  loadK (some 2) y1 m fun a0 m1 =>
  storeK 2 y0 a0 m1 fun a2 m3 =>
  loadK (some 2) y0 m3 fun a4 _ =>
  retK false false m0 [a4] m3
theorem g36_0 (call : CL) (n : Nat) (m0 : Mem) (y0 y1 : AV) (m : Mem) : evK call n b36_0 [(4, y0), (5, y1)] m (fun e m => endK f36 m0 .nrm e m) (endK f36 m0) = G36_0 call n m0 y0 y1 m := by kernel_rfl
def k36_0 (call : CL) (n : Nat) (m0 : Mem) : KN := (fun e m => endK f36 m0 .nrm e m)
def x36_0 (call : CL) (n : Nat) (m0 : Mem) : KX := (endK f36 m0)
def S36_0 (call : CL) (n : Nat) (m0 : Mem) (y0 y1 : AV) (m : Mem) : Rho := G36_0 call n m0 y0 y1 m
def d36_0 (call : CL) (n : Nat) (m0 : Mem) (y0 y1 : AV) (m : Mem) : Rho := evK call n b36_0 [(4, y0), (5, y1)] m (k36_0 call n m0) (x36_0 call n m0)
theorem l36_0 {call : CL} {n : Nat} {m0 : Mem} : d36_0 call n m0 = S36_0 call n m0 := by
  funext y0 y1 m
  have h : d36_0 call n m0 y0 y1 m = G36_0 call n m0 y0 y1 m := Eq.mp (by kernel_rfl) (g36_0 call n m0 y0 y1 m)
  exact h
def G36_1 (call : CL) (n : Nat) (m0 : Mem) (Q36_0 : Y2) (y0 y1 y2 : AV) (m : Mem) : Rho :=
  newK [(.list .full 0 []), (.bool false)] m fun a0 m1 =>
  makeMapK m1 fun a2 m3 =>
  mapUpdateK ⟨[.i], false⟩ a2 (.int .i64 0) (.int .i64 0) m3 fun a4 m5 =>
  mapUpdateK ⟨[.i], false⟩ a2 (.int .i64 1) (.int .i64 1) m5 fun a6 m7 =>
  newK [.nilmap] m7 fun a8 m9 =>
  storeK 1 a8 a2 m9 fun a10 m11 =>
  newK [.nilfunc] m11 fun a12 m13 =>
  storeK 1 a12 (.func 50 [] [a8, y1, a12, a0]) m13 fun a14 m15 =>
  loadK none a12 m15 fun a16 m17 =>
  callK call a16 false [y0] m17 fun a18 m19 =>
  vK (aFieldAddr 0 1 a0) m19 fun a20 m21 =>
  loadK none a20 m21 fun a22 m23 =>
  vK (aLen m23 1 a22) m23 fun a24 m25 =>
  binK .gtr a24 (.int .i64 256) fun a26 =>
  condK a26
  (callK call (.func 13 [] []) false [(.bool true)] m25 fun a27 m28 =>
  storeK 2 y2 a27 m28 fun a29 m30 =>
  loadK (some 2) y2 m30 fun a31 _ =>
  retK false false m0 [a31] m30)
  (Q36_0 y2 a0 m25)
theorem g36_1 (call : CL) (n : Nat) (m0 : Mem) (b36_0 : C) (y0 y1 y2 : AV) (m : Mem) : evK call n (c36_1 b36_0) [(1, y0), (2, y1), (4, y2)] m (fun e m => endK f36 m0 .nrm e m) (endK f36 m0) = G36_1 call n m0 (fun x0 x1 m => evK call n b36_0 [(4, x0), (5, x1)] m (fun e m => endK f36 m0 .nrm e m) (endK f36 m0)) y0 y1 y2 m := by kernel_rfl
def k36_1 (call : CL) (n : Nat) (m0 : Mem) : KN := (fun e m => endK f36 m0 .nrm e m)
def x36_1 (call : CL) (n : Nat) (m0 : Mem) : KX := (endK f36 m0)
def S36_1 (call : CL) (n : Nat) (m0 : Mem) (y0 y1 y2 : AV) (m : Mem) : Rho := G36_1 call n m0 (S36_0 call n m0) y0 y1 y2 m
def d36_1 (call : CL) (n : Nat) (m0 : Mem) (y0 y1 y2 : AV) (m : Mem) : Rho := evK call n b36_1 [(1, y0), (2, y1), (4, y2)] m (k36_1 call n m0) (x36_1 call n m0)
theorem l36_1 {call : CL} {n : Nat} {m0 : Mem} : d36_1 call n m0 = S36_1 call n m0 := by
  funext y0 y1 y2 m
  have h : d36_1 call n m0 y0 y1 y2 m = G36_1 call n m0 (d36_0 call n m0) y0 y1 y2 m := Eq.mp (by kernel_rfl) (g36_1 call n m0 b36_0 y0 y1 y2 m)
  rw [l36_0] at h; exact h
def G36 (call : CL) (n : Nat) (m0 : Mem) (Q36_1 : Y3) (y0 y1 : AV) (m : Mem) : Rho :=
  boxK y0 m fun a0 m1 =>
  newK [(.list .full 0 []), (.bool false)] m1 fun a2 m3 =>
  binK .lss y1 (.int .i64 2) fun a4 =>
  condK a4
  (binK .eql y1 (.int .i64 1) fun a5 =>
  buildK [(.list .full 0 []), (.bool false)] [(1, 1, AV.untag1 a5)] fun a6 =>
  storeK 2 a2 a6 m3 fun a7 m8 =>
  loadK (some 2) a2 m8 fun a9 _ =>
  retK false false m0 [a9] m8)
  (Q36_1 y1 a0 a2 m3)
theorem g36 (call : CL) (n : Nat) (m0 : Mem) (b36_1 : C) (y0 y1 : AV) (m : Mem) : evK call n (c36 b36_1) [(0, y0), (1, y1)] m (fun e m => endK f36 m0 .nrm e m) (endK f36 m0) = G36 call n m0 (fun x0 x1 x2 m => evK call n b36_1 [(1, x0), (2, x1), (4, x2)] m (fun e m => endK f36 m0 .nrm e m) (endK f36 m0)) y0 y1 m := by kernel_rfl
def S36 (call : CL) (n : Nat) (m0 : Mem) (y0 y1 : AV) : Rho := G36 call n m0 (S36_1 call n m0) y0 y1 { m0 with bad := none }
theorem s36 (call : CL) (n : Nat) (m0 : Mem) (y0 y1 : AV) : bodyK call n f36 [y0, y1] m0 = S36 call n m0 y0 y1 :=
  have h : bodyK call n f36 [y0, y1] m0 = G36 call n m0 (d36_1 call n m0) y0 y1 { m0 with bad := none } := Eq.mp (by kernel_rfl) (g36 call n m0 b36_1 y0 y1 { m0 with bad := none })
  by rw [l36_1] at h; exact h
def F36 : SF := fun call n vs m0 => unc vs fun x0 vs => unc vs fun x1 vs => unz vs (S36 call n m0 x0 x1)
theorem F36_ok {orc : List AV → Mem → Option (AV × Mem)} : SOk 36 { f36 with orc := orc } F36 := by
  intro call n vs m0 ho r h0
  simp only [F36] at h0
  obtain ⟨y0, v0, rfl, h1⟩ := unc_some h0
  obtain ⟨y1, v1, rfl, h2⟩ := unc_some h1
  obtain ⟨rfl, hz⟩ := unz_some h2
  exact bodyK_le ho rfl r (Eq.mp (by kernel_rfl) ((s36 call n m0 y0 y1).trans hz))

-- resolvent/pos.join
def G37_2 (call : CL) (n : Nat) (m0 : Mem) (y0 y1 y2 : AV) (m : Mem) : Rho :=
  callK call (.func 36 [] []) false [y1, y2] m fun a0 m1 =>
  storeK 2 y0 a0 m1 fun a2 m3 =>
  loadK (some 2) y0 m3 fun a4 _ =>
  retK false false m0 [a4] m3
theorem g37_2 (call : CL) (n : Nat) (m0 : Mem) (y0 y1 y2 : AV) (m : Mem) : evK call n b37_2 [(6, y0), (7, y1), (8, y2)] m (fun e m => endK f37 m0 .nrm e m) (endK f37 m0) = G37_2 call n m0 y0 y1 y2 m := by kernel_rfl
def k37_2 (call : CL) (n : Nat) (m0 : Mem) : KN := (fun e m => endK f37 m0 .nrm e m)
def x37_2 (call : CL) (n : Nat) (m0 : Mem) : KX := (endK f37 m0)
def S37_2 (call : CL) (n : Nat) (m0 : Mem) (y0 y1 y2 : AV) (m : Mem) : Rho := G37_2 call n m0 y0 y1 y2 m
def d37_2 (call : CL) (n : Nat) (m0 : Mem) (y0 y1 y2 : AV) (m : Mem) : Rho := evK call n b37_2 [(6, y0), (7, y1), (8, y2)] m (k37_2 call n m0) (x37_2 call n m0)
theorem l37_2 {call : CL} {n : Nat} {m0 : Mem} : d37_2 call n m0 = S37_2 call n m0 := by
  funext y0 y1 y2 m
  have h : d37_2 call n m0 y0 y1 y2 m = G37_2 call n m0 y0 y1 y2 m := Eq.mp (by kernel_rfl) (g37_2 call n m0 y0 y1 y2 m)
  exact h
def G37_0 (call : CL) (n : Nat) (kn : KN) (kx : KX) (y0 y1 y2 y3 y4 y5 y6 : AV) (m : Mem) : Rho :=
  vK (aIndexAddr m 2 y4 y6) m fun a0 m1 =>
  loadK (some 2) a0 m1 fun a2 m3 =>
  newK [(.list .full 0 []), (.bool false)] m3 fun a4 m5 =>
  storeK 2 a4 a2 m5 fun a6 m7 =>
  loadK (some 2) a4 m7 fun a8 m9 =>
  callK call (.func 28 [] []) false [y2, a8] m9 fun a10 m11 =>
  callK call (.func 27 [] []) false [y2, y3, a10, y0] m11 fun a12 m13 =>
  binK .add y6 (.int .i64 1) fun a14 =>
  kn [(0, y0), (6, y1), (7, y2), (8, a12), (15, y4), (16, y5), (17, a14)] m13
theorem g37_0 (call : CL) (n : Nat) (kn : KN) (kx : KX) (y0 y1 y2 y3 y4 y5 y6 : AV) (m : Mem) : evK call n b37_0 [(0, y0), (6, y1), (7, y2), (8, y3), (15, y4), (16, y5), (17, y6)] m kn kx = G37_0 call n kn kx y0 y1 y2 y3 y4 y5 y6 m := by kernel_rfl
def k37_0 (call : CL) (n : Nat) (kn : KN) (kx : KX) : KN := kn
def x37_0 (call : CL) (n : Nat) (kn : KN) (kx : KX) : KX := kx
def S37_0 (call : CL) (n : Nat) (kn : KN) (kx : KX) (y0 y1 y2 y3 y4 y5 y6 : AV) (m : Mem) : Rho := G37_0 call n kn kx y0 y1 y2 y3 y4 y5 y6 m
def d37_0 (call : CL) (n : Nat) (kn : KN) (kx : KX) (y0 y1 y2 y3 y4 y5 y6 : AV) (m : Mem) : Rho := evK call n b37_0 [(0, y0), (6, y1), (7, y2), (8, y3), (15, y4), (16, y5), (17, y6)] m (k37_0 call n kn kx) (x37_0 call n kn kx)
theorem l37_0 {call : CL} {n : Nat} {kn : KN} {kx : KX} : d37_0 call n kn kx = S37_0 call n kn kx := by
  funext y0 y1 y2 y3 y4 y5 y6 m
  have h : d37_0 call n kn kx y0 y1 y2 y3 y4 y5 y6 m = G37_0 call n kn kx y0 y1 y2 y3 y4 y5 y6 m := Eq.mp (by kernel_rfl) (g37_0 call n kn kx y0 y1 y2 y3 y4 y5 y6 m)
  exact h
def G37_1 (call : CL) (n : Nat) (kn : KN) (kx : KX) (Q37_0 : Y7) (y0 y1 y2 y3 y4 y5 y6 : AV) (m : Mem) : Rho :=
  binK .lss y6 y5 fun a0 =>
  condK a0
  (Q37_0 y0 y1 y2 y3 y4 y5 y6 m)
  (kx (.ext 0) [(0, y0), (6, y1), (7, y2), (8, y3), (15, y4), (16, y5), (17, y6), (18, a0)] m)
theorem g37_1 (call : CL) (n : Nat) (kn : KN) (kx : KX) (b37_0 : C) (y0 y1 y2 y3 y4 y5 y6 : AV) (m : Mem) : evK call n (c37_1 b37_0) [(0, y0), (6, y1), (7, y2), (8, y3), (15, y4), (16, y5), (17, y6)] m kn kx = G37_1 call n kn kx (fun x0 x1 x2 x3 x4 x5 x6 m => evK call n b37_0 [(0, x0), (6, x1), (7, x2), (8, x3), (15, x4), (16, x5), (17, x6)] m kn kx) y0 y1 y2 y3 y4 y5 y6 m := by kernel_rfl
def S37_1 (call : CL) (n : Nat) (kn : KN) (kx : KX) (y0 y1 y2 y3 y4 y5 y6 : AV) (m : Mem) : Rho := G37_1 call n kn kx (S37_0 call n kn kx) y0 y1 y2 y3 y4 y5 y6 m
def d37_1 (call : CL) (n : Nat) (kn : KN) (kx : KX) (y0 y1 y2 y3 y4 y5 y6 : AV) (m : Mem) : Rho := evK call n b37_1 [(0, y0), (6, y1), (7, y2), (8, y3), (15, y4), (16, y5), (17, y6)] m kn kx
theorem l37_1 {call : CL} {n : Nat} : d37_1 call n = S37_1 call n := by
  funext kn kx y0 y1 y2 y3 y4 y5 y6 m
  have h : d37_1 call n kn kx y0 y1 y2 y3 y4 y5 y6 m = G37_1 call n kn kx (d37_0 call n kn kx) y0 y1 y2 y3 y4 y5 y6 m := Eq.mp (by kernel_rfl) (g37_1 call n kn kx b37_0 y0 y1 y2 y3 y4 y5 y6 m)
  rw [l37_0] at h; exact h
def G37 (call : CL) (n : Nat) (m0 : Mem) (B37_1 : KN → KX → Y7) (Q37_2 : Y3) (y0 y1 y2 : AV) (m : Mem) : Rho :=
  boxK y1 m fun a0 m1 =>
  newK [(.list .full 0 []), (.bool false)] m1 fun a2 m3 =>
  callK call (.func 26 [] []) false [] m3 fun a4 m5 =>
  loadK (some 2) a0 m5 fun a6 m7 =>
  callK call (.func 28 [] []) false [a4, a6] m7 fun a8 m9 =>
  vK (aLen m9 1 y2) m9 fun a10 m11 =>
  loopV [0, 6, 7, 8, 15, 16, 17] none (fun vs m kn kx => unc vs fun x0 vs => unc vs fun x1 vs => unc vs fun x2 vs => unc vs fun x3 vs => unc vs fun x4 vs => unc vs fun x5 vs => unc vs fun x6 vs => unz vs (B37_1 kn kx x0 x1 x2 x3 x4 x5 x6 m)) (blkK 0 (fun e m => keepK e [6, 7, 8] fun vs => unc vs fun x0 vs => unc vs fun x1 vs => unc vs fun x2 vs => unz vs (Q37_2 x0 x1 x2 m)) (endK f37 m0)) n [y0, a2, a4, a8, y2, a10, (.int .i64 0)] m11
theorem g37 (call : CL) (n : Nat) (m0 : Mem) (b37_1 : C) (b37_2 : C) (y0 y1 y2 : AV) (m : Mem) : evK call n (c37 b37_1 b37_2) [(0, y0), (1, y1), (2, y2)] m (fun e m => endK f37 m0 .nrm e m) (endK f37 m0) = G37 call n m0 (fun kn kx x0 x1 x2 x3 x4 x5 x6 m => evK call n b37_1 [(0, x0), (6, x1), (7, x2), (8, x3), (15, x4), (16, x5), (17, x6)] m kn kx) (fun x0 x1 x2 m => evK call n b37_2 [(6, x0), (7, x1), (8, x2)] m (fun e m => endK f37 m0 .nrm e m) (endK f37 m0)) y0 y1 y2 m := by kernel_rfl
def S37 (call : CL) (n : Nat) (m0 : Mem) (y0 y1 y2 : AV) : Rho := G37 call n m0 (S37_1 call n) (S37_2 call n m0) y0 y1 y2 { m0 with bad := none }
theorem s37 (call : CL) (n : Nat) (m0 : Mem) (y0 y1 y2 : AV) : bodyK call n f37 [y0, y1, y2] m0 = S37 call n m0 y0 y1 y2 :=
  have h : bodyK call n f37 [y0, y1, y2] m0 = G37 call n m0 (d37_1 call n) (d37_2 call n m0) y0 y1 y2 { m0 with bad := none } := Eq.mp (by kernel_rfl) (g37 call n m0 b37_1 b37_2 y0 y1 y2 { m0 with bad := none })
  by rw [l37_1, l37_2] at h; exact h
def F37 : SF := fun call n vs m0 => unc vs fun x0 vs => unc vs fun x1 vs => unc vs fun x2 vs => unz vs (S37 call n m0 x0 x1 x2)
theorem F37_ok {orc : List AV → Mem → Option (AV × Mem)} : SOk 37 { f37 with orc := orc } F37 := by
  intro call n vs m0 ho r h0
  simp only [F37] at h0
  obtain ⟨y0, v0, rfl, h1⟩ := unc_some h0
  obtain ⟨y1, v1, rfl, h2⟩ := unc_some h1
  obtain ⟨y2, v2, rfl, h3⟩ := unc_some h2
  obtain ⟨rfl, hz⟩ := unz_some h3
  exact bodyK_le ho rfl r (Eq.mp (by kernel_rfl) ((s37 call n m0 y0 y1 y2).trans hz))

-- (*resolvent/pos.table).with
def G38_2 (call : CL) (n : Nat) (m0 : Mem) (y0 y1 y2 y3 : AV) (m : Mem) : Rho :=
  vK (aFieldAddr 1 1 y3) m fun a0 m1 =>
  loadK none a0 m1 fun a2 m3 =>
  callK call (.func 38 [] []) false [y0, a2, y1, y2] m3 fun a4 m5 =>
  vK (aFieldAddr 0 1 y3) m5 fun a6 m7 =>
  loadK none a6 m7 fun a8 m9 =>
  vK (aFieldAddr 2 1 y3) m9 fun a10 m11 =>
  loadK none a10 m11 fun a12 m13 =>
  callK call (.func 38 [] []) false [y0, a12, y1, y2] m13 fun a14 m15 =>
  buildK [(.int .i64 0), (.int .i64 0), (.int .i64 0)] [(0, 1, AV.untag1 a8), (1, 1, AV.untag1 a4), (2, 1, AV.untag1 a14)] fun a16 =>
  callK call (.func 35 [] []) false [y0, a16] m15 fun a17 m18 =>
  cond (stayK [m5, m15, m18] [(fun m => m.load none a6, a8, 0, 2, true)]) (retK false false m0 [a17] m18) none
theorem g38_2 (call : CL) (n : Nat) (m0 : Mem) (y0 y1 y2 y3 : AV) (m : Mem) : evK call n b38_2 [(0, y0), (2, y1), (3, y2), (9, y3)] m (fun e m => endK f38 m0 .nrm e m) (endK f38 m0) = G38_2 call n m0 y0 y1 y2 y3 m := by kernel_rfl
def k38_2 (call : CL) (n : Nat) (m0 : Mem) : KN := (fun e m => endK f38 m0 .nrm e m)
def x38_2 (call : CL) (n : Nat) (m0 : Mem) : KX := (endK f38 m0)
def S38_2 (call : CL) (n : Nat) (m0 : Mem) (y0 y1 y2 y3 : AV) (m : Mem) : Rho := G38_2 call n m0 y0 y1 y2 y3 m
def d38_2 (call : CL) (n : Nat) (m0 : Mem) (y0 y1 y2 y3 : AV) (m : Mem) : Rho := evK call n b38_2 [(0, y0), (2, y1), (3, y2), (9, y3)] m (k38_2 call n m0) (x38_2 call n m0)
theorem l38_2 {call : CL} {n : Nat} {m0 : Mem} : d38_2 call n m0 = S38_2 call n m0 := by
  funext y0 y1 y2 y3 m
  have h : d38_2 call n m0 y0 y1 y2 y3 m = G38_2 call n m0 y0 y1 y2 y3 m := Eq.mp (by kernel_rfl) (g38_2 call n m0 y0 y1 y2 y3 m)
  exact h
def G38_0 (call : CL) (n : Nat) (m0 : Mem) (y0 : AV) (m : Mem) : Rho :=
  vK (aFieldAddr 1 1 y0) m fun a0 m1 =>
  loadK none a0 m1 fun a2 m3 =>
  retK false false m0 [a2] m3
theorem g38_0 (call : CL) (n : Nat) (m0 : Mem) (b38_2 : C) (k38_2 : KN) (x38_2 : KX) (y0 : AV) (m : Mem) : evK call n b38_0 [(9, y0)] m (jn call n [0, 2, 3, 9] b38_2 k38_2 x38_2) (endK f38 m0) = G38_0 call n m0 y0 m := by kernel_rfl
def k38_0 (call : CL) (n : Nat) (m0 : Mem) : KN := (jn call n [0, 2, 3, 9] b38_2 (k38_2 call n m0) (x38_2 call n m0))
def x38_0 (call : CL) (n : Nat) (m0 : Mem) : KX := (endK f38 m0)
def S38_0 (call : CL) (n : Nat) (m0 : Mem) (y0 : AV) (m : Mem) : Rho := G38_0 call n m0 y0 m
def d38_0 (call : CL) (n : Nat) (m0 : Mem) (y0 : AV) (m : Mem) : Rho := evK call n b38_0 [(9, y0)] m (k38_0 call n m0) (x38_0 call n m0)
theorem l38_0 {call : CL} {n : Nat} {m0 : Mem} : d38_0 call n m0 = S38_0 call n m0 := by
  funext y0 m
  have h : d38_0 call n m0 y0 m = G38_0 call n m0 y0 m := Eq.mp (by kernel_rfl) (g38_0 call n m0 b38_2 (k38_2 call n m0) (x38_2 call n m0) y0 m)
  exact h
def G38_3 (call : CL) (n : Nat) (m0 : Mem) (Q38_0 : Y1) (Q38_2 : Y4) (y0 y1 y2 y3 : AV) (m : Mem) : Rho :=
  nilK y0 fun a0 =>
  vK (aFieldAddr 0 1 a0) m fun a1 m2 =>
  loadK none a1 m2 fun a3 m4 =>
  binK .sub y1 (.int .i64 2) fun a5 =>
  vK (aIndexAddr m4 3 a3 a5) m4 fun a6 m7 =>
  loadK (some 3) a6 m7 fun a8 m9 =>
  newK [(.int .i64 0), (.int .i64 0), (.int .i64 0)] m9 fun a10 m11 =>
  storeK 3 a10 a8 m11 fun a12 m13 =>
  vK (aFieldAddr 0 1 a10) m13 fun a14 m15 =>
  loadK none a14 m15 fun a16 m17 =>
  binK .eql a16 y2 fun a18 =>
  condK a18
  (condK y3
  (vK (aFieldAddr 2 1 a10) m17 fun a19 m20 =>
  loadK none a19 m20 fun a21 m22 =>
  retK false false m0 [a21] m22)
  (Q38_0 a10 m17))
  (Q38_2 y0 y2 y3 a10 m17)
theorem g38_3 (call : CL) (n : Nat) (m0 : Mem) (b38_0 : C) (b38_2 : C) (y0 y1 y2 y3 : AV) (m : Mem) : evK call n (c38_3 b38_0 b38_2) [(0, y0), (1, y1), (2, y2), (3, y3)] m (fun e m => endK f38 m0 .nrm e m) (endK f38 m0) = G38_3 call n m0 (fun x0 m => evK call n b38_0 [(9, x0)] m (jn call n [0, 2, 3, 9] b38_2 (fun e m => endK f38 m0 .nrm e m) (endK f38 m0)) (endK f38 m0)) (fun x0 x1 x2 x3 m => evK call n b38_2 [(0, x0), (2, x1), (3, x2), (9, x3)] m (fun e m => endK f38 m0 .nrm e m) (endK f38 m0)) y0 y1 y2 y3 m := by kernel_rfl
def k38_3 (call : CL) (n : Nat) (m0 : Mem) : KN := (fun e m => endK f38 m0 .nrm e m)
def x38_3 (call : CL) (n : Nat) (m0 : Mem) : KX := (endK f38 m0)
def S38_3 (call : CL) (n : Nat) (m0 : Mem) (y0 y1 y2 y3 : AV) (m : Mem) : Rho := G38_3 call n m0 (S38_0 call n m0) (S38_2 call n m0) y0 y1 y2 y3 m
def d38_3 (call : CL) (n : Nat) (m0 : Mem) (y0 y1 y2 y3 : AV) (m : Mem) : Rho := evK call n b38_3 [(0, y0), (1, y1), (2, y2), (3, y3)] m (k38_3 call n m0) (x38_3 call n m0)
theorem l38_3 {call : CL} {n : Nat} {m0 : Mem} : d38_3 call n m0 = S38_3 call n m0 := by
  funext y0 y1 y2 y3 m
  have h : d38_3 call n m0 y0 y1 y2 y3 m = G38_3 call n m0 (d38_0 call n m0) (d38_2 call n m0) y0 y1 y2 y3 m := Eq.mp (by kernel_rfl) (g38_3 call n m0 b38_0 b38_2 y0 y1 y2 y3 m)
  rw [l38_0, l38_2] at h; exact h
def G38 (call : CL) (n : Nat) (m0 : Mem) (Q38_3 : Y4) (y0 y1 y2 y3 : AV) (m : Mem) : Rho :=
  callK call (.func 45 [] []) false [y0, y1] m fun a0 m1 =>
  binK .gtr a0 y2 fun a2 =>
  condK a2
  (retK false false m0 [y1] m1)
  (Q38_3 y0 y1 y2 y3 m1)
theorem g38 (call : CL) (n : Nat) (m0 : Mem) (b38_3 : C) (y0 y1 y2 y3 : AV) (m : Mem) : evK call n (c38 b38_3) [(0, y0), (1, y1), (2, y2), (3, y3)] m (fun e m => endK f38 m0 .nrm e m) (endK f38 m0) = G38 call n m0 (fun x0 x1 x2 x3 m => evK call n b38_3 [(0, x0), (1, x1), (2, x2), (3, x3)] m (fun e m => endK f38 m0 .nrm e m) (endK f38 m0)) y0 y1 y2 y3 m := by kernel_rfl
def S38 (call : CL) (n : Nat) (m0 : Mem) (y0 y1 y2 y3 : AV) : Rho := G38 call n m0 (S38_3 call n m0) y0 y1 y2 y3 { m0 with bad := none }
theorem s38 (call : CL) (n : Nat) (m0 : Mem) (y0 y1 y2 y3 : AV) : bodyK call n f38 [y0, y1, y2, y3] m0 = S38 call n m0 y0 y1 y2 y3 :=
  have h : bodyK call n f38 [y0, y1, y2, y3] m0 = G38 call n m0 (d38_3 call n m0) y0 y1 y2 y3 { m0 with bad := none } := Eq.mp (by kernel_rfl) (g38 call n m0 b38_3 y0 y1 y2 y3 { m0 with bad := none })
  by rw [l38_3] at h; exact h
def F38 : SF := fun call n vs m0 => unc vs fun x0 vs => unc vs fun x1 vs => unc vs fun x2 vs => unc vs fun x3 vs => unz vs (S38 call n m0 x0 x1 x2 x3)
theorem F38_ok {orc : List AV → Mem → Option (AV × Mem)} : SOk 38 { f38 with orc := orc } F38 := by
  intro call n vs m0 ho r h0
  simp only [F38] at h0
  obtain ⟨y0, v0, rfl, h1⟩ := unc_some h0
  obtain ⟨y1, v1, rfl, h2⟩ := unc_some h1
  obtain ⟨y2, v2, rfl, h3⟩ := unc_some h2
  obtain ⟨y3, v3, rfl, h4⟩ := unc_some h3
  obtain ⟨rfl, hz⟩ := unz_some h4
  exact bodyK_le ho rfl r (Eq.mp (by kernel_rfl) ((s38 call n m0 y0 y1 y2 y3).trans hz))

-- resolvent/resolventlaw16.tables
def G39_0 (call : CL) (n : Nat) (m0 : Mem) (y0 y1 : AV) (m : Mem) : Rho :=
  loadK (some 2) y1 m fun a0 m1 =>
  storeK 2 y0 a0 m1 fun a2 m3 =>
  loadK (some 2) y0 m3 fun a4 _ =>
  retK false false m0 [a4] m3
theorem g39_0 (call : CL) (n : Nat) (m0 : Mem) (y0 y1 : AV) (m : Mem) : evK call n b39_0 [(4, y0), (5, y1)] m (fun e m => endK f39 m0 .nrm e m) (endK f39 m0) = G39_0 call n m0 y0 y1 m := by kernel_rfl
def k39_0 (call : CL) (n : Nat) (m0 : Mem) : KN := (fun e m => endK f39 m0 .nrm e m)
def x39_0 (call : CL) (n : Nat) (m0 : Mem) : KX := (endK f39 m0)
def S39_0 (call : CL) (n : Nat) (m0 : Mem) (y0 y1 : AV) (m : Mem) : Rho := G39_0 call n m0 y0 y1 m
def d39_0 (call : CL) (n : Nat) (m0 : Mem) (y0 y1 : AV) (m : Mem) : Rho := evK call n b39_0 [(4, y0), (5, y1)] m (k39_0 call n m0) (x39_0 call n m0)
theorem l39_0 {call : CL} {n : Nat} {m0 : Mem} : d39_0 call n m0 = S39_0 call n m0 := by
  funext y0 y1 m
  have h : d39_0 call n m0 y0 y1 m = G39_0 call n m0 y0 y1 m := Eq.mp (by kernel_rfl) (g39_0 call n m0 y0 y1 m)
  exact h
def G39 (call : CL) (n : Nat) (m0 : Mem) (Q39_0 : Y2) (y0 y1 : AV) (m : Mem) : Rho :=
  boxK y0 m fun a0 m1 =>
  newK [(.int .u64 0), (.int .u64 0)] m1 fun a2 m3 =>
  buildK [(.int .u64 0), (.int .u64 0)] [] fun a4 =>
  newK [(.int .u64 0), (.int .u64 0)] m3 fun a5 m6 =>
  storeK 2 a5 a4 m6 fun a7 m8 =>
  vK (aLen m8 1 y1) m8 fun a9 m10 =>
  binK .gtr a9 (.int .i64 0) fun a11 =>
  condK a11
  (vK (aFieldAddr 2 1 a0) m10 fun a12 m13 =>
  loadK none a12 m13 fun a14 m15 =>
  vK (aLen m15 1 y1) m15 fun a16 m17 =>
  callK call (.func 12 [] []) false [a14, a16] m17 fun a18 m19 =>
  vK (aIndexAddr m19 1 y1 a18) m19 fun a20 m21 =>
  loadK none a20 m21 fun a22 m23 =>
  vK (aIndexAddrA 2 1 a5 (.int .i64 0)) m23 fun a24 m25 =>
  storeK 1 a24 a22 m25 fun a26 m27 =>
  vK (aFieldAddr 3 1 a0) m27 fun a28 m29 =>
  loadK none a28 m29 fun a30 m31 =>
  vK (aLen m31 1 y1) m31 fun a32 m33 =>
  callK call (.func 12 [] []) false [a30, a32] m33 fun a34 m35 =>
  vK (aIndexAddr m35 1 y1 a34) m35 fun a36 m37 =>
  loadK none a36 m37 fun a38 m39 =>
  vK (aIndexAddrA 2 1 a5 (.int .i64 1)) m39 fun a40 m41 =>
  storeK 1 a40 a38 m41 fun a42 m43 =>
  Q39_0 a2 a5 m43)
  (Q39_0 a2 a5 m10)
theorem g39 (call : CL) (n : Nat) (m0 : Mem) (b39_0 : C) (y0 y1 : AV) (m : Mem) : evK call n (c39 b39_0) [(0, y0), (1, y1)] m (fun e m => endK f39 m0 .nrm e m) (endK f39 m0) = G39 call n m0 (fun x0 x1 m => evK call n b39_0 [(4, x0), (5, x1)] m (fun e m => endK f39 m0 .nrm e m) (endK f39 m0)) y0 y1 m := by kernel_rfl
def S39 (call : CL) (n : Nat) (m0 : Mem) (y0 y1 : AV) : Rho := G39 call n m0 (S39_0 call n m0) y0 y1 { m0 with bad := none }
theorem s39 (call : CL) (n : Nat) (m0 : Mem) (y0 y1 : AV) : bodyK call n f39 [y0, y1] m0 = S39 call n m0 y0 y1 :=
  have h : bodyK call n f39 [y0, y1] m0 = G39 call n m0 (d39_0 call n m0) y0 y1 { m0 with bad := none } := Eq.mp (by kernel_rfl) (g39 call n m0 b39_0 y0 y1 { m0 with bad := none })
  by rw [l39_0] at h; exact h
def F39 : SF := fun call n vs m0 => unc vs fun x0 vs => unc vs fun x1 vs => unz vs (S39 call n m0 x0 x1)
theorem F39_ok {orc : List AV → Mem → Option (AV × Mem)} : SOk 39 { f39 with orc := orc } F39 := by
  intro call n vs m0 ho r h0
  simp only [F39] at h0
  obtain ⟨y0, v0, rfl, h1⟩ := unc_some h0
  obtain ⟨y1, v1, rfl, h2⟩ := unc_some h1
  obtain ⟨rfl, hz⟩ := unz_some h2
  exact bodyK_le ho rfl r (Eq.mp (by kernel_rfl) ((s39 call n m0 y0 y1).trans hz))

-- resolvent/resolventlaw16.renamed
def G40_10 (call : CL) (n : Nat) (m0 : Mem) (y0 y1 : AV) (m : Mem) : Rho :=
  binK .shr y0 y1 fun a0 =>
  binK .and a0 (.int .u64 1) fun a1 =>
  binK .eql a1 (.int .u64 1) fun a2 =>
  retK false false m0 [a2] m
theorem g40_10 (call : CL) (n : Nat) (m0 : Mem) (y0 y1 : AV) (m : Mem) : evK call n b40_10 [(1, y0), (7, y1)] m (fun e m => endK f40 m0 .nrm e m) (endK f40 m0) = G40_10 call n m0 y0 y1 m := by kernel_rfl
def k40_10 (call : CL) (n : Nat) (m0 : Mem) : KN := (fun e m => endK f40 m0 .nrm e m)
def x40_10 (call : CL) (n : Nat) (m0 : Mem) : KX := (endK f40 m0)
def S40_10 (call : CL) (n : Nat) (m0 : Mem) (y0 y1 : AV) (m : Mem) : Rho := G40_10 call n m0 y0 y1 m
def d40_10 (call : CL) (n : Nat) (m0 : Mem) (y0 y1 : AV) (m : Mem) : Rho := evK call n b40_10 [(1, y0), (7, y1)] m (k40_10 call n m0) (x40_10 call n m0)
theorem l40_10 {call : CL} {n : Nat} {m0 : Mem} : d40_10 call n m0 = S40_10 call n m0 := by
  funext y0 y1 m
  have h : d40_10 call n m0 y0 y1 m = G40_10 call n m0 y0 y1 m := Eq.mp (by kernel_rfl) (g40_10 call n m0 y0 y1 m)
  exact h
def G40_7 (call : CL) (n : Nat) (kn : KN) (kx : KX) (y0 y1 y2 y3 y4 y5 : AV) (m : Mem) : Rho :=
  binK .add y5 (.int .i64 1) fun a0 =>
  kn [(1, y0), (2, y1), (3, y2), (7, y3), (8, y4), (9, a0)] m
theorem g40_7 (call : CL) (n : Nat) (kn : KN) (kx : KX) (y0 y1 y2 y3 y4 y5 : AV) (m : Mem) : evK call n b40_7 [(1, y0), (2, y1), (3, y2), (7, y3), (8, y4), (9, y5)] m kn kx = G40_7 call n kn kx y0 y1 y2 y3 y4 y5 m := by kernel_rfl
def k40_7 (call : CL) (n : Nat) (kn : KN) (kx : KX) : KN := kn
def x40_7 (call : CL) (n : Nat) (kn : KN) (kx : KX) : KX := kx
def S40_7 (call : CL) (n : Nat) (kn : KN) (kx : KX) (y0 y1 y2 y3 y4 y5 : AV) (m : Mem) : Rho := G40_7 call n kn kx y0 y1 y2 y3 y4 y5 m
def d40_7 (call : CL) (n : Nat) (kn : KN) (kx : KX) (y0 y1 y2 y3 y4 y5 : AV) (m : Mem) : Rho := evK call n b40_7 [(1, y0), (2, y1), (3, y2), (7, y3), (8, y4), (9, y5)] m (k40_7 call n kn kx) (x40_7 call n kn kx)
theorem l40_7 {call : CL} {n : Nat} {kn : KN} {kx : KX} : d40_7 call n kn kx = S40_7 call n kn kx := by
  funext y0 y1 y2 y3 y4 y5 m
  have h : d40_7 call n kn kx y0 y1 y2 y3 y4 y5 m = G40_7 call n kn kx y0 y1 y2 y3 y4 y5 m := Eq.mp (by kernel_rfl) (g40_7 call n kn kx y0 y1 y2 y3 y4 y5 m)
  exact h
def G40_4 (call : CL) (n : Nat) (kn : KN) (kx : KX) (Q40_7 : Y6) (y0 y1 y2 y3 y4 y5 : AV) (m : Mem) : Rho :=
  vK (aFieldAddr 4 1 y2) m fun a0 m1 =>
  loadK none a0 m1 fun a2 m3 =>
  vK (aIndexAddr m3 1 a2 y5) m3 fun a4 m5 =>
  loadK none a4 m5 fun a6 m7 =>
  buildSliceK 1 [(.int .i64 0)] 1 false [(0 * 1, 1, AV.untag a6)] m7 fun a8 m9 =>
  appendK 1 8 0 y4 a8 m9 fun a10 m11 =>
  vK (aFieldAddr 4 1 y2) m11 fun a12 m13 =>
  loadK none a12 m13 fun a14 m15 =>
  vK (aIndexAddr m15 1 a14 y5) m15 fun a16 m17 =>
  loadK none a16 m17 fun a18 m19 =>
  callK call (.func 7 [] []) false [y1, a18] m19 fun a20 m21 =>
  condK a20
  (binK .shl (.int .i64 1) y5 fun a22 =>
  binK .or y3 a22 fun a23 =>
  Q40_7 y0 y1 y2 a23 a10 y5 m21)
  (Q40_7 y0 y1 y2 y3 a10 y5 m21)
theorem g40_4 (call : CL) (n : Nat) (kn : KN) (kx : KX) (b40_7 : C) (k40_7 : KN) (x40_7 : KX) (y0 y1 y2 y3 y4 y5 : AV) (m : Mem) : evK call n b40_4 [(1, y0), (2, y1), (3, y2), (7, y3), (8, y4), (9, y5)] m (jn call n [1, 2, 3, 7, 8, 9] b40_7 k40_7 x40_7) (blkK 1 (jn call n [1, 2, 3, 7, 8, 9] b40_7 k40_7 x40_7) kx) = G40_4 call n kn kx (fun x0 x1 x2 x3 x4 x5 m => evK call n b40_7 [(1, x0), (2, x1), (3, x2), (7, x3), (8, x4), (9, x5)] m k40_7 x40_7) y0 y1 y2 y3 y4 y5 m := by kernel_rfl
def k40_4 (call : CL) (n : Nat) (kn : KN) (kx : KX) : KN := (jn call n [1, 2, 3, 7, 8, 9] b40_7 (k40_7 call n kn kx) (x40_7 call n kn kx))
def x40_4 (call : CL) (n : Nat) (kn : KN) (kx : KX) : KX := (blkK 1 (jn call n [1, 2, 3, 7, 8, 9] b40_7 (k40_7 call n kn kx) (x40_7 call n kn kx)) kx)
def S40_4 (call : CL) (n : Nat) (kn : KN) (kx : KX) (y0 y1 y2 y3 y4 y5 : AV) (m : Mem) : Rho := G40_4 call n kn kx (S40_7 call n kn kx) y0 y1 y2 y3 y4 y5 m
def d40_4 (call : CL) (n : Nat) (kn : KN) (kx : KX) (y0 y1 y2 y3 y4 y5 : AV) (m : Mem) : Rho := evK call n b40_4 [(1, y0), (2, y1), (3, y2), (7, y3), (8, y4), (9, y5)] m (k40_4 call n kn kx) (x40_4 call n kn kx)
theorem l40_4 {call : CL} {n : Nat} {kn : KN} {kx : KX} : d40_4 call n kn kx = S40_4 call n kn kx := by
  funext y0 y1 y2 y3 y4 y5 m
  have h : d40_4 call n kn kx y0 y1 y2 y3 y4 y5 m = G40_4 call n kn kx (d40_7 call n kn kx) y0 y1 y2 y3 y4 y5 m := Eq.mp (by kernel_rfl) (g40_4 call n kn kx b40_7 (k40_7 call n kn kx) (x40_7 call n kn kx) y0 y1 y2 y3 y4 y5 m)
  rw [l40_7] at h; exact h
def G40_1 (call : CL) (n : Nat) (kn : KN) (kx : KX) (y0 y1 y2 y3 y4 y5 y6 : AV) (m : Mem) : Rho :=
  binK .add y6 (.int .i64 1) fun a0 =>
  kn [(1, y0), (2, y1), (3, y2), (7, y3), (8, y4), (9, y5), (10, a0)] m
theorem g40_1 (call : CL) (n : Nat) (kn : KN) (kx : KX) (y0 y1 y2 y3 y4 y5 y6 : AV) (m : Mem) : evK call n b40_1 [(1, y0), (2, y1), (3, y2), (7, y3), (8, y4), (9, y5), (10, y6)] m kn kx = G40_1 call n kn kx y0 y1 y2 y3 y4 y5 y6 m := by kernel_rfl
def k40_1 (call : CL) (n : Nat) (kn : KN) (kx : KX) : KN := kn
def x40_1 (call : CL) (n : Nat) (kn : KN) (kx : KX) : KX := kx
def S40_1 (call : CL) (n : Nat) (kn : KN) (kx : KX) (y0 y1 y2 y3 y4 y5 y6 : AV) (m : Mem) : Rho := G40_1 call n kn kx y0 y1 y2 y3 y4 y5 y6 m
def d40_1 (call : CL) (n : Nat) (kn : KN) (kx : KX) (y0 y1 y2 y3 y4 y5 y6 : AV) (m : Mem) : Rho := evK call n b40_1 [(1, y0), (2, y1), (3, y2), (7, y3), (8, y4), (9, y5), (10, y6)] m (k40_1 call n kn kx) (x40_1 call n kn kx)
theorem l40_1 {call : CL} {n : Nat} {kn : KN} {kx : KX} : d40_1 call n kn kx = S40_1 call n kn kx := by
  funext y0 y1 y2 y3 y4 y5 y6 m
  have h : d40_1 call n kn kx y0 y1 y2 y3 y4 y5 y6 m = G40_1 call n kn kx y0 y1 y2 y3 y4 y5 y6 m := Eq.mp (by kernel_rfl) (g40_1 call n kn kx y0 y1 y2 y3 y4 y5 y6 m)
  exact h
def G40_2 (call : CL) (n : Nat) (kn : KN) (kx : KX) (Q40_1 : Y7) (y0 y1 y2 y3 y4 y5 y6 : AV) (m : Mem) : Rho :=
  vK (aIndexAddr m 1 y4 y6) m fun a0 m1 =>
  loadK none a0 m1 fun a2 m3 =>
  vK (aFieldAddr 4 1 y2) m3 fun a4 m5 =>
  loadK none a4 m5 fun a6 m7 =>
  vK (aIndexAddr m7 1 a6 y5) m7 fun a8 m9 =>
  loadK none a8 m9 fun a10 m11 =>
  binK .eql a2 a10 fun a12 =>
  condK a12
  (kx .ret [(6, (.bool true))] m11)
  (Q40_1 y0 y1 y2 y3 y4 y5 y6 m11)
theorem g40_2 (call : CL) (n : Nat) (kn : KN) (kx : KX) (b40_1 : C) (y0 y1 y2 y3 y4 y5 y6 : AV) (m : Mem) : evK call n (c40_2 b40_1) [(1, y0), (2, y1), (3, y2), (7, y3), (8, y4), (9, y5), (10, y6)] m kn kx = G40_2 call n kn kx (fun x0 x1 x2 x3 x4 x5 x6 m => evK call n b40_1 [(1, x0), (2, x1), (3, x2), (7, x3), (8, x4), (9, x5), (10, x6)] m kn kx) y0 y1 y2 y3 y4 y5 y6 m := by kernel_rfl
def k40_2 (call : CL) (n : Nat) (kn : KN) (kx : KX) : KN := kn
def x40_2 (call : CL) (n : Nat) (kn : KN) (kx : KX) : KX := kx
def S40_2 (call : CL) (n : Nat) (kn : KN) (kx : KX) (y0 y1 y2 y3 y4 y5 y6 : AV) (m : Mem) : Rho := G40_2 call n kn kx (S40_1 call n kn kx) y0 y1 y2 y3 y4 y5 y6 m
def d40_2 (call : CL) (n : Nat) (kn : KN) (kx : KX) (y0 y1 y2 y3 y4 y5 y6 : AV) (m : Mem) : Rho := evK call n b40_2 [(1, y0), (2, y1), (3, y2), (7, y3), (8, y4), (9, y5), (10, y6)] m (k40_2 call n kn kx) (x40_2 call n kn kx)
theorem l40_2 {call : CL} {n : Nat} {kn : KN} {kx : KX} : d40_2 call n kn kx = S40_2 call n kn kx := by
  funext y0 y1 y2 y3 y4 y5 y6 m
  have h : d40_2 call n kn kx y0 y1 y2 y3 y4 y5 y6 m = G40_2 call n kn kx (d40_1 call n kn kx) y0 y1 y2 y3 y4 y5 y6 m := Eq.mp (by kernel_rfl) (g40_2 call n kn kx b40_1 y0 y1 y2 y3 y4 y5 y6 m)
  rw [l40_1] at h; exact h
def G40_3 (call : CL) (n : Nat) (kn : KN) (kx : KX) (Q40_2 : Y7) (y0 y1 y2 y3 y4 y5 y6 : AV) (m : Mem) : Rho :=
  vK (aLen m 1 y4) m fun a0 m1 =>
  binK .lss y6 a0 fun a2 =>
  condK a2
  (Q40_2 y0 y1 y2 y3 y4 y5 y6 m1)
  (kx (.ext 2) [(1, y0), (2, y1), (3, y2), (7, y3), (8, y4), (9, y5), (10, y6), (35, a2)] m1)
theorem g40_3 (call : CL) (n : Nat) (kn : KN) (kx : KX) (b40_2 : C) (y0 y1 y2 y3 y4 y5 y6 : AV) (m : Mem) : evK call n (c40_3 b40_2) [(1, y0), (2, y1), (3, y2), (7, y3), (8, y4), (9, y5), (10, y6)] m kn kx = G40_3 call n kn kx (fun x0 x1 x2 x3 x4 x5 x6 m => evK call n b40_2 [(1, x0), (2, x1), (3, x2), (7, x3), (8, x4), (9, x5), (10, x6)] m kn kx) y0 y1 y2 y3 y4 y5 y6 m := by kernel_rfl
def S40_3 (call : CL) (n : Nat) (kn : KN) (kx : KX) (y0 y1 y2 y3 y4 y5 y6 : AV) (m : Mem) : Rho := G40_3 call n kn kx (S40_2 call n kn kx) y0 y1 y2 y3 y4 y5 y6 m
def d40_3 (call : CL) (n : Nat) (kn : KN) (kx : KX) (y0 y1 y2 y3 y4 y5 y6 : AV) (m : Mem) : Rho := evK call n b40_3 [(1, y0), (2, y1), (3, y2), (7, y3), (8, y4), (9, y5), (10, y6)] m kn kx
theorem l40_3 {call : CL} {n : Nat} : d40_3 call n = S40_3 call n := by
  funext kn kx y0 y1 y2 y3 y4 y5 y6 m
  have h : d40_3 call n kn kx y0 y1 y2 y3 y4 y5 y6 m = G40_3 call n kn kx (d40_2 call n kn kx) y0 y1 y2 y3 y4 y5 y6 m := Eq.mp (by kernel_rfl) (g40_3 call n kn kx b40_2 y0 y1 y2 y3 y4 y5 y6 m)
  rw [l40_2] at h; exact h
def G40_5 (call : CL) (n : Nat) (kn : KN) (kx : KX) (B40_3 : KN → KX → Y7) (Q40_4 : Y6) (Q40_7 : Y6) (y0 y1 y2 y3 y4 y5 : AV) (m : Mem) : Rho :=
  loopV [1, 2, 3, 7, 8, 9, 10] none (fun vs m kn kx => unc vs fun x0 vs => unc vs fun x1 vs => unc vs fun x2 vs => unc vs fun x3 vs => unc vs fun x4 vs => unc vs fun x5 vs => unc vs fun x6 vs => unz vs (B40_3 kn kx x0 x1 x2 x3 x4 x5 x6 m)) (blkK 2 (fun e m => keepK e [1, 2, 3, 7, 8, 9] fun vs => unc vs fun x0 vs => unc vs fun x1 vs => unc vs fun x2 vs => unc vs fun x3 vs => unc vs fun x4 vs => unc vs fun x5 vs => unz vs (Q40_4 x0 x1 x2 x3 x4 x5 m)) (blkK 1 (fun e m => keepK e [1, 2, 3, 7, 8, 9] fun vs => unc vs fun x0 vs => unc vs fun x1 vs => unc vs fun x2 vs => unc vs fun x3 vs => unc vs fun x4 vs => unc vs fun x5 vs => unz vs (Q40_7 x0 x1 x2 x3 x4 x5 m)) kx)) n [y0, y1, y2, y3, y4, y5, (.int .i64 0)] m
theorem g40_5 (call : CL) (n : Nat) (kn : KN) (kx : KX) (b40_3 : C) (b40_4 : C) (b40_7 : C) (k40_7 : KN) (x40_7 : KX) (y0 y1 y2 y3 y4 y5 : AV) (m : Mem) : evK call n (c40_5 b40_3 b40_4) [(1, y0), (2, y1), (3, y2), (7, y3), (8, y4), (9, y5)] m (jn call n [1, 2, 3, 7, 8, 9] b40_7 k40_7 x40_7) (blkK 1 (jn call n [1, 2, 3, 7, 8, 9] b40_7 k40_7 x40_7) kx) = G40_5 call n kn kx (fun kn kx x0 x1 x2 x3 x4 x5 x6 m => evK call n b40_3 [(1, x0), (2, x1), (3, x2), (7, x3), (8, x4), (9, x5), (10, x6)] m kn kx) (fun x0 x1 x2 x3 x4 x5 m => evK call n b40_4 [(1, x0), (2, x1), (3, x2), (7, x3), (8, x4), (9, x5)] m (jn call n [1, 2, 3, 7, 8, 9] b40_7 k40_7 x40_7) (blkK 1 (jn call n [1, 2, 3, 7, 8, 9] b40_7 k40_7 x40_7) kx)) (fun x0 x1 x2 x3 x4 x5 m => evK call n b40_7 [(1, x0), (2, x1), (3, x2), (7, x3), (8, x4), (9, x5)] m k40_7 x40_7) y0 y1 y2 y3 y4 y5 m := by kernel_rfl
def k40_5 (call : CL) (n : Nat) (kn : KN) (kx : KX) : KN := (jn call n [1, 2, 3, 7, 8, 9] b40_7 (k40_7 call n kn kx) (x40_7 call n kn kx))
def x40_5 (call : CL) (n : Nat) (kn : KN) (kx : KX) : KX := (blkK 1 (jn call n [1, 2, 3, 7, 8, 9] b40_7 (k40_7 call n kn kx) (x40_7 call n kn kx)) kx)
def S40_5 (call : CL) (n : Nat) (kn : KN) (kx : KX) (y0 y1 y2 y3 y4 y5 : AV) (m : Mem) : Rho := G40_5 call n kn kx (S40_3 call n) (S40_4 call n kn kx) (S40_7 call n kn kx) y0 y1 y2 y3 y4 y5 m
def d40_5 (call : CL) (n : Nat) (kn : KN) (kx : KX) (y0 y1 y2 y3 y4 y5 : AV) (m : Mem) : Rho := evK call n b40_5 [(1, y0), (2, y1), (3, y2), (7, y3), (8, y4), (9, y5)] m (k40_5 call n kn kx) (x40_5 call n kn kx)
theorem l40_5 {call : CL} {n : Nat} {kn : KN} {kx : KX} : d40_5 call n kn kx = S40_5 call n kn kx := by
  funext y0 y1 y2 y3 y4 y5 m
  have h : d40_5 call n kn kx y0 y1 y2 y3 y4 y5 m = G40_5 call n kn kx (d40_3 call n) (d40_4 call n kn kx) (d40_7 call n kn kx) y0 y1 y2 y3 y4 y5 m := Eq.mp (by kernel_rfl) (g40_5 call n kn kx b40_3 b40_4 b40_7 (k40_7 call n kn kx) (x40_7 call n kn kx) y0 y1 y2 y3 y4 y5 m)
  rw [l40_3, l40_4, l40_7] at h; exact h
def G40_6 (call : CL) (n : Nat) (kn : KN) (kx : KX) (Q40_5 : Y6) (y0 y1 y2 y3 y4 y5 : AV) (m : Mem) : Rho :=
  vK (aFieldAddr 4 1 y2) m fun a0 m1 =>
  loadK none a0 m1 fun a2 m3 =>
  vK (aLen m3 1 a2) m3 fun a4 m5 =>
  binK .geq y5 a4 fun a6 =>
  gK a6 false (fun k => vK (aFieldAddr 4 1 y2) m5 fun a7 m8 =>
  k a7 m8) m5 fun a9 m10 =>
  gK a6 false (fun k => loadK none a9 m10 fun a11 m12 =>
  k a11 m12) m10 fun a13 m14 =>
  gK a6 false (fun k => k y5 m14) m14 fun a15 m16 =>
  gK a6 false (fun k => vK (aIndexAddr m16 1 a13 a15) m16 fun a17 m18 =>
  k a17 m18) m16 fun a19 m20 =>
  gK a6 false (fun k => loadK none a19 m20 fun a21 m22 =>
  k a21 m22) m20 fun a23 m24 =>
  gK a6 false (fun k => binK .lss a23 (.int .i64 0) fun a25 =>
  k a25 m24) m24 fun a26 m27 =>
  pickK a6 (some (.bool true)) (some a26) fun a28 =>
  condK a28
  (kx .ret [(6, (.bool true))] m27)
  (Q40_5 y0 y1 y2 y3 y4 y5 m27)
theorem g40_6 (call : CL) (n : Nat) (kn : KN) (kx : KX) (b40_5 : C) (b40_7 : C) (k40_7 : KN) (x40_7 : KX) (y0 y1 y2 y3 y4 y5 : AV) (m : Mem) : evK call n (c40_6 b40_5) [(1, y0), (2, y1), (3, y2), (7, y3), (8, y4), (9, y5)] m (jn call n [1, 2, 3, 7, 8, 9] b40_7 k40_7 x40_7) (blkK 1 (jn call n [1, 2, 3, 7, 8, 9] b40_7 k40_7 x40_7) kx) = G40_6 call n kn kx (fun x0 x1 x2 x3 x4 x5 m => evK call n b40_5 [(1, x0), (2, x1), (3, x2), (7, x3), (8, x4), (9, x5)] m (jn call n [1, 2, 3, 7, 8, 9] b40_7 k40_7 x40_7) (blkK 1 (jn call n [1, 2, 3, 7, 8, 9] b40_7 k40_7 x40_7) kx)) y0 y1 y2 y3 y4 y5 m := by kernel_rfl
def k40_6 (call : CL) (n : Nat) (kn : KN) (kx : KX) : KN := (jn call n [1, 2, 3, 7, 8, 9] b40_7 (k40_7 call n kn kx) (x40_7 call n kn kx))
def x40_6 (call : CL) (n : Nat) (kn : KN) (kx : KX) : KX := (blkK 1 (jn call n [1, 2, 3, 7, 8, 9] b40_7 (k40_7 call n kn kx) (x40_7 call n kn kx)) kx)
def S40_6 (call : CL) (n : Nat) (kn : KN) (kx : KX) (y0 y1 y2 y3 y4 y5 : AV) (m : Mem) : Rho := G40_6 call n kn kx (S40_5 call n kn kx) y0 y1 y2 y3 y4 y5 m
def d40_6 (call : CL) (n : Nat) (kn : KN) (kx : KX) (y0 y1 y2 y3 y4 y5 : AV) (m : Mem) : Rho := evK call n b40_6 [(1, y0), (2, y1), (3, y2), (7, y3), (8, y4), (9, y5)] m (k40_6 call n kn kx) (x40_6 call n kn kx)
theorem l40_6 {call : CL} {n : Nat} {kn : KN} {kx : KX} : d40_6 call n kn kx = S40_6 call n kn kx := by
  funext y0 y1 y2 y3 y4 y5 m
  have h : d40_6 call n kn kx y0 y1 y2 y3 y4 y5 m = G40_6 call n kn kx (d40_5 call n kn kx) y0 y1 y2 y3 y4 y5 m := Eq.mp (by kernel_rfl) (g40_6 call n kn kx b40_5 b40_7 (k40_7 call n kn kx) (x40_7 call n kn kx) y0 y1 y2 y3 y4 y5 m)
  rw [l40_5] at h; exact h
def G40_8 (call : CL) (n : Nat) (kn : KN) (kx : KX) (Q40_7 : Y6) (Q40_6 : Y6) (y0 y1 y2 y3 y4 y5 : AV) (m : Mem) : Rho :=
  callK call (.func 51 [] []) false [y0, y5] m fun a0 m1 =>
  unK .not a0 fun a2 =>
  condK a2
  (Q40_7 y0 y1 y2 y3 y4 y5 m1)
  (Q40_6 y0 y1 y2 y3 y4 y5 m1)
theorem g40_8 (call : CL) (n : Nat) (kn : KN) (kx : KX) (b40_6 : C) (b40_7 : C) (y0 y1 y2 y3 y4 y5 : AV) (m : Mem) : evK call n (c40_8 b40_6 b40_7) [(1, y0), (2, y1), (3, y2), (7, y3), (8, y4), (9, y5)] m kn kx = G40_8 call n kn kx (fun x0 x1 x2 x3 x4 x5 m => evK call n b40_7 [(1, x0), (2, x1), (3, x2), (7, x3), (8, x4), (9, x5)] m kn kx) (fun x0 x1 x2 x3 x4 x5 m => evK call n b40_6 [(1, x0), (2, x1), (3, x2), (7, x3), (8, x4), (9, x5)] m (jn call n [1, 2, 3, 7, 8, 9] b40_7 kn kx) (blkK 1 (jn call n [1, 2, 3, 7, 8, 9] b40_7 kn kx) kx)) y0 y1 y2 y3 y4 y5 m := by kernel_rfl
def k40_8 (call : CL) (n : Nat) (kn : KN) (kx : KX) : KN := kn
def x40_8 (call : CL) (n : Nat) (kn : KN) (kx : KX) : KX := kx
def S40_8 (call : CL) (n : Nat) (kn : KN) (kx : KX) (y0 y1 y2 y3 y4 y5 : AV) (m : Mem) : Rho := G40_8 call n kn kx (S40_7 call n kn kx) (S40_6 call n kn kx) y0 y1 y2 y3 y4 y5 m
def d40_8 (call : CL) (n : Nat) (kn : KN) (kx : KX) (y0 y1 y2 y3 y4 y5 : AV) (m : Mem) : Rho := evK call n b40_8 [(1, y0), (2, y1), (3, y2), (7, y3), (8, y4), (9, y5)] m (k40_8 call n kn kx) (x40_8 call n kn kx)
theorem l40_8 {call : CL} {n : Nat} {kn : KN} {kx : KX} : d40_8 call n kn kx = S40_8 call n kn kx := by
  funext y0 y1 y2 y3 y4 y5 m
  have h : d40_8 call n kn kx y0 y1 y2 y3 y4 y5 m = G40_8 call n kn kx (d40_7 call n kn kx) (d40_6 call n kn kx) y0 y1 y2 y3 y4 y5 m := Eq.mp (by kernel_rfl) (g40_8 call n kn kx b40_6 b40_7 y0 y1 y2 y3 y4 y5 m)
  rw [l40_7, l40_6] at h; exact h
def G40_9 (call : CL) (n : Nat) (kn : KN) (kx : KX) (Q40_8 : Y6) (y0 y1 y2 y3 y4 y5 : AV) (m : Mem) : Rho :=
  binK .lss y5 (.int .i64 6) fun a0 =>
  condK a0
  (Q40_8 y0 y1 y2 y3 y4 y5 m)
  (kx (.ext 0) [(1, y0), (2, y1), (3, y2), (7, y3), (8, y4), (9, y5), (12, a0)] m)
theorem g40_9 (call : CL) (n : Nat) (kn : KN) (kx : KX) (b40_8 : C) (y0 y1 y2 y3 y4 y5 : AV) (m : Mem) : evK call n (c40_9 b40_8) [(1, y0), (2, y1), (3, y2), (7, y3), (8, y4), (9, y5)] m kn kx = G40_9 call n kn kx (fun x0 x1 x2 x3 x4 x5 m => evK call n b40_8 [(1, x0), (2, x1), (3, x2), (7, x3), (8, x4), (9, x5)] m kn kx) y0 y1 y2 y3 y4 y5 m := by kernel_rfl
def S40_9 (call : CL) (n : Nat) (kn : KN) (kx : KX) (y0 y1 y2 y3 y4 y5 : AV) (m : Mem) : Rho := G40_9 call n kn kx (S40_8 call n kn kx) y0 y1 y2 y3 y4 y5 m
def d40_9 (call : CL) (n : Nat) (kn : KN) (kx : KX) (y0 y1 y2 y3 y4 y5 : AV) (m : Mem) : Rho := evK call n b40_9 [(1, y0), (2, y1), (3, y2), (7, y3), (8, y4), (9, y5)] m kn kx
theorem l40_9 {call : CL} {n : Nat} : d40_9 call n = S40_9 call n := by
  funext kn kx y0 y1 y2 y3 y4 y5 m
  have h : d40_9 call n kn kx y0 y1 y2 y3 y4 y5 m = G40_9 call n kn kx (d40_8 call n kn kx) y0 y1 y2 y3 y4 y5 m := Eq.mp (by kernel_rfl) (g40_9 call n kn kx b40_8 y0 y1 y2 y3 y4 y5 m)
  rw [l40_8] at h; exact h
def G40 (call : CL) (n : Nat) (m0 : Mem) (B40_9 : KN → KX → Y6) (Q40_10 : Y2) (y0 y1 y2 : AV) (m : Mem) : Rho :=
  boxK y0 m fun a0 m1 =>
  tipK 1 m1 fun a2 m3 =>
  loopV [1, 2, 3, 7, 8, 9] none (fun vs m kn kx => unc vs fun x0 vs => unc vs fun x1 vs => unc vs fun x2 vs => unc vs fun x3 vs => unc vs fun x4 vs => unc vs fun x5 vs => unz vs (B40_9 kn kx x0 x1 x2 x3 x4 x5 m)) (blkK 0 (fun e m => keepK e [1, 7] fun vs => unc vs fun x0 vs => unc vs fun x1 vs => unz vs (Q40_10 x0 x1 m)) (endK f40 m0)) n [y1, y2, a0, (.int .i64 0), a2, (.int .i64 0)] m3
theorem g40 (call : CL) (n : Nat) (m0 : Mem) (b40_9 : C) (b40_10 : C) (y0 y1 y2 : AV) (m : Mem) : evK call n (c40 b40_9 b40_10) [(0, y0), (1, y1), (2, y2)] m (fun e m => endK f40 m0 .nrm e m) (endK f40 m0) = G40 call n m0 (fun kn kx x0 x1 x2 x3 x4 x5 m => evK call n b40_9 [(1, x0), (2, x1), (3, x2), (7, x3), (8, x4), (9, x5)] m kn kx) (fun x0 x1 m => evK call n b40_10 [(1, x0), (7, x1)] m (fun e m => endK f40 m0 .nrm e m) (endK f40 m0)) y0 y1 y2 m := by kernel_rfl
def S40 (call : CL) (n : Nat) (m0 : Mem) (y0 y1 y2 : AV) : Rho := G40 call n m0 (S40_9 call n) (S40_10 call n m0) y0 y1 y2 { m0 with bad := none }
theorem s40 (call : CL) (n : Nat) (m0 : Mem) (y0 y1 y2 : AV) : bodyK call n f40 [y0, y1, y2] m0 = S40 call n m0 y0 y1 y2 :=
  have h : bodyK call n f40 [y0, y1, y2] m0 = G40 call n m0 (d40_9 call n) (d40_10 call n m0) y0 y1 y2 { m0 with bad := none } := Eq.mp (by kernel_rfl) (g40 call n m0 b40_9 b40_10 y0 y1 y2 { m0 with bad := none })
  by rw [l40_9, l40_10] at h; exact h
def F40 : SF := fun call n vs m0 => unc vs fun x0 vs => unc vs fun x1 vs => unc vs fun x2 vs => unz vs (S40 call n m0 x0 x1 x2)
theorem F40_ok {orc : List AV → Mem → Option (AV × Mem)} : SOk 40 { f40 with orc := orc } F40 := by
  intro call n vs m0 ho r h0
  simp only [F40] at h0
  obtain ⟨y0, v0, rfl, h1⟩ := unc_some h0
  obtain ⟨y1, v1, rfl, h2⟩ := unc_some h1
  obtain ⟨y2, v2, rfl, h3⟩ := unc_some h2
  obtain ⟨rfl, hz⟩ := unz_some h3
  exact bodyK_le ho rfl r (Eq.mp (by kernel_rfl) ((s40 call n m0 y0 y1 y2).trans hz))

-- slices.Index[[]int,int]
def G43_3 (call : CL) (n : Nat) (m0 : Mem) (m : Mem) : Rho :=
  retK false false m0 [(.int .i64 (-1))] m
theorem g43_3 (call : CL) (n : Nat) (m0 : Mem) (m : Mem) : evK call n b43_3 [] m (fun e m => endK f43 m0 .nrm e m) (endK f43 m0) = G43_3 call n m0 m := by kernel_rfl
def k43_3 (call : CL) (n : Nat) (m0 : Mem) : KN := (fun e m => endK f43 m0 .nrm e m)
def x43_3 (call : CL) (n : Nat) (m0 : Mem) : KX := (endK f43 m0)
def S43_3 (call : CL) (n : Nat) (m0 : Mem) (m : Mem) : Rho := G43_3 call n m0 m
def d43_3 (call : CL) (n : Nat) (m0 : Mem) (m : Mem) : Rho := evK call n b43_3 [] m (k43_3 call n m0) (x43_3 call n m0)
theorem l43_3 {call : CL} {n : Nat} {m0 : Mem} : d43_3 call n m0 = S43_3 call n m0 := by
  funext m
  have h : d43_3 call n m0 m = G43_3 call n m0 m := Eq.mp (by kernel_rfl) (g43_3 call n m0 m)
  exact h
def G43_0 (call : CL) (n : Nat) (kn : KN) (kx : KX) (y0 y1 y2 y3 : AV) (m : Mem) : Rho :=
  binK .add y3 (.int .i64 1) fun a0 =>
  kn [(0, y0), (1, y1), (7, y2), (8, a0)] m
theorem g43_0 (call : CL) (n : Nat) (kn : KN) (kx : KX) (y0 y1 y2 y3 : AV) (m : Mem) : evK call n b43_0 [(0, y0), (1, y1), (7, y2), (8, y3)] m kn kx = G43_0 call n kn kx y0 y1 y2 y3 m := by kernel_rfl
def k43_0 (call : CL) (n : Nat) (kn : KN) (kx : KX) : KN := kn
def x43_0 (call : CL) (n : Nat) (kn : KN) (kx : KX) : KX := kx
def S43_0 (call : CL) (n : Nat) (kn : KN) (kx : KX) (y0 y1 y2 y3 : AV) (m : Mem) : Rho := G43_0 call n kn kx y0 y1 y2 y3 m
def d43_0 (call : CL) (n : Nat) (kn : KN) (kx : KX) (y0 y1 y2 y3 : AV) (m : Mem) : Rho := evK call n b43_0 [(0, y0), (1, y1), (7, y2), (8, y3)] m (k43_0 call n kn kx) (x43_0 call n kn kx)
theorem l43_0 {call : CL} {n : Nat} {kn : KN} {kx : KX} : d43_0 call n kn kx = S43_0 call n kn kx := by
  funext y0 y1 y2 y3 m
  have h : d43_0 call n kn kx y0 y1 y2 y3 m = G43_0 call n kn kx y0 y1 y2 y3 m := Eq.mp (by kernel_rfl) (g43_0 call n kn kx y0 y1 y2 y3 m)
  exact h
def G43_1 (call : CL) (n : Nat) (kn : KN) (kx : KX) (Q43_0 : Y4) (y0 y1 y2 y3 : AV) (m : Mem) : Rho :=
  vK (aIndexAddr m 1 y0 y3) m fun a0 m1 =>
  loadK none a0 m1 fun a2 m3 =>
  binK .eql y1 a2 fun a4 =>
  condK a4
  (kx .ret [(4, y3)] m3)
  (Q43_0 y0 y1 y2 y3 m3)
theorem g43_1 (call : CL) (n : Nat) (kn : KN) (kx : KX) (b43_0 : C) (y0 y1 y2 y3 : AV) (m : Mem) : evK call n (c43_1 b43_0) [(0, y0), (1, y1), (7, y2), (8, y3)] m kn kx = G43_1 call n kn kx (fun x0 x1 x2 x3 m => evK call n b43_0 [(0, x0), (1, x1), (7, x2), (8, x3)] m kn kx) y0 y1 y2 y3 m := by kernel_rfl
def k43_1 (call : CL) (n : Nat) (kn : KN) (kx : KX) : KN := kn
def x43_1 (call : CL) (n : Nat) (kn : KN) (kx : KX) : KX := kx
def S43_1 (call : CL) (n : Nat) (kn : KN) (kx : KX) (y0 y1 y2 y3 : AV) (m : Mem) : Rho := G43_1 call n kn kx (S43_0 call n kn kx) y0 y1 y2 y3 m
def d43_1 (call : CL) (n : Nat) (kn : KN) (kx : KX) (y0 y1 y2 y3 : AV) (m : Mem) : Rho := evK call n b43_1 [(0, y0), (1, y1), (7, y2), (8, y3)] m (k43_1 call n kn kx) (x43_1 call n kn kx)
theorem l43_1 {call : CL} {n : Nat} {kn : KN} {kx : KX} : d43_1 call n kn kx = S43_1 call n kn kx := by
  funext y0 y1 y2 y3 m
  have h : d43_1 call n kn kx y0 y1 y2 y3 m = G43_1 call n kn kx (d43_0 call n kn kx) y0 y1 y2 y3 m := Eq.mp (by kernel_rfl) (g43_1 call n kn kx b43_0 y0 y1 y2 y3 m)
  rw [l43_0] at h; exact h
def G43_2 (call : CL) (n : Nat) (kn : KN) (kx : KX) (Q43_1 : Y4) (y0 y1 y2 y3 : AV) (m : Mem) : Rho :=
  binK .lss y3 y2 fun a0 =>
  condK a0
  (Q43_1 y0 y1 y2 y3 m)
  (kx (.ext 0) [(0, y0), (1, y1), (7, y2), (8, y3), (9, a0)] m)
theorem g43_2 (call : CL) (n : Nat) (kn : KN) (kx : KX) (b43_1 : C) (y0 y1 y2 y3 : AV) (m : Mem) : evK call n (c43_2 b43_1) [(0, y0), (1, y1), (7, y2), (8, y3)] m kn kx = G43_2 call n kn kx (fun x0 x1 x2 x3 m => evK call n b43_1 [(0, x0), (1, x1), (7, x2), (8, x3)] m kn kx) y0 y1 y2 y3 m := by kernel_rfl
def S43_2 (call : CL) (n : Nat) (kn : KN) (kx : KX) (y0 y1 y2 y3 : AV) (m : Mem) : Rho := G43_2 call n kn kx (S43_1 call n kn kx) y0 y1 y2 y3 m
def d43_2 (call : CL) (n : Nat) (kn : KN) (kx : KX) (y0 y1 y2 y3 : AV) (m : Mem) : Rho := evK call n b43_2 [(0, y0), (1, y1), (7, y2), (8, y3)] m kn kx
theorem l43_2 {call : CL} {n : Nat} : d43_2 call n = S43_2 call n := by
  funext kn kx y0 y1 y2 y3 m
  have h : d43_2 call n kn kx y0 y1 y2 y3 m = G43_2 call n kn kx (d43_1 call n kn kx) y0 y1 y2 y3 m := Eq.mp (by kernel_rfl) (g43_2 call n kn kx b43_1 y0 y1 y2 y3 m)
  rw [l43_1] at h; exact h
def G43 (call : CL) (n : Nat) (m0 : Mem) (B43_2 : KN → KX → Y4) (Q43_3 : Y0) (y0 y1 : AV) (m : Mem) : Rho :=
  vK (aLen m 1 y0) m fun a0 m1 =>
  loopV [0, 1, 7, 8] none (fun vs m kn kx => unc vs fun x0 vs => unc vs fun x1 vs => unc vs fun x2 vs => unc vs fun x3 vs => unz vs (B43_2 kn kx x0 x1 x2 x3 m)) (blkK 0 (fun e m => keepK e [] fun vs => unz vs (Q43_3 m)) (endK f43 m0)) n [y0, y1, a0, (.int .i64 0)] m1
theorem g43 (call : CL) (n : Nat) (m0 : Mem) (b43_2 : C) (b43_3 : C) (y0 y1 : AV) (m : Mem) : evK call n (c43 b43_2 b43_3) [(0, y0), (1, y1)] m (fun e m => endK f43 m0 .nrm e m) (endK f43 m0) = G43 call n m0 (fun kn kx x0 x1 x2 x3 m => evK call n b43_2 [(0, x0), (1, x1), (7, x2), (8, x3)] m kn kx) (fun m => evK call n b43_3 [] m (fun e m => endK f43 m0 .nrm e m) (endK f43 m0)) y0 y1 m := by kernel_rfl
def S43 (call : CL) (n : Nat) (m0 : Mem) (y0 y1 : AV) : Rho := G43 call n m0 (S43_2 call n) (S43_3 call n m0) y0 y1 { m0 with bad := none }
theorem s43 (call : CL) (n : Nat) (m0 : Mem) (y0 y1 : AV) : bodyK call n f43 [y0, y1] m0 = S43 call n m0 y0 y1 :=
  have h : bodyK call n f43 [y0, y1] m0 = G43 call n m0 (d43_2 call n) (d43_3 call n m0) y0 y1 { m0 with bad := none } := Eq.mp (by kernel_rfl) (g43 call n m0 b43_2 b43_3 y0 y1 { m0 with bad := none })
  by rw [l43_2, l43_3] at h; exact h
def F43 : SF := fun call n vs m0 => unc vs fun x0 vs => unc vs fun x1 vs => unz vs (S43 call n m0 x0 x1)
theorem F43_ok {orc : List AV → Mem → Option (AV × Mem)} : SOk 43 { f43 with orc := orc } F43 := by
  intro call n vs m0 ho r h0
  simp only [F43] at h0
  obtain ⟨y0, v0, rfl, h1⟩ := unc_some h0
  obtain ⟨y1, v1, rfl, h2⟩ := unc_some h1
  obtain ⟨rfl, hz⟩ := unz_some h2
  exact bodyK_le ho rfl r (Eq.mp (by kernel_rfl) ((s43 call n m0 y0 y1).trans hz))

-- (*resolvent/pos.table).both$1
def G44_2 (call : CL) (n : Nat) (m0 : Mem) (y0 y1 y2 y3 y4 y5 : AV) (m : Mem) : Rho :=
  loadK none y3 m fun a0 m1 =>
  callK call (.func 45 [] []) false [a0, y0] m1 fun a2 m3 =>
  loadK none y3 m3 fun a4 m5 =>
  callK call (.func 45 [] []) false [a4, y1] m5 fun a6 m7 =>
  min2K a2 a6 fun a8 =>
  cond (stayK [m, m3, m7] [(fun m => m.load none y3, a4, 0, 2, true)]) (loadK none y3 m7 fun a9 m10 =>
  callK call (.func 46 [] []) false [a9, y0, a8] m10 fun a11 m12 =>
  extractK a11 0 fun a13 =>
  extractK a11 1 fun a14 =>
  loadK none y3 m12 fun a15 m16 =>
  callK call (.func 46 [] []) false [a15, y1, a8] m16 fun a17 m18 =>
  extractK a17 0 fun a19 =>
  extractK a17 1 fun a20 =>
  loadK none y4 m18 fun a21 m22 =>
  callK call a21 false [a13, a19] m22 fun a23 m24 =>
  loadK none y2 m24 fun a25 m26 =>
  loadK (some 2) y5 m26 fun a27 m28 =>
  loadK none y3 m28 fun a29 m30 =>
  loadK none y4 m30 fun a31 m32 =>
  callK call a31 false [a14, a20] m32 fun a33 m34 =>
  buildK [(.int .i64 0), (.int .i64 0), (.int .i64 0)] [(0, 1, AV.untag1 a8), (1, 1, AV.untag1 a23), (2, 1, AV.untag1 a33)] fun a35 =>
  callK call (.func 35 [] []) false [a29, a35] m34 fun a36 m37 =>
  mapUpdateK ⟨[.i, .i], true⟩ a25 a27 a36 m37 fun a38 m39 =>
  cond (stayK [m24, m34, m37, m39] [(fun m => m.load none y2, a25, 0, 3, true), (fun m => m.load (some 2) y5, a27, 0, 3, true), (fun m => m.load none y3, a29, 0, 2, true)]) (loadK none y2 m39 fun a40 m41 =>
  loadK (some 2) y5 m41 fun a42 m43 =>
  lookupK ⟨[.i, .i], true⟩ (.int .i64 0) false a40 a42 m43 fun a44 =>
  retK false false m0 [a44] m43) none) none
theorem g44_2 (call : CL) (n : Nat) (m0 : Mem) (y0 y1 y2 y3 y4 y5 : AV) (m : Mem) : evK call n b44_2 [(0, y0), (1, y1), (3, y2), (4, y3), (5, y4), (11, y5)] m (fun e m => endK f44 m0 .nrm e m) (endK f44 m0) = G44_2 call n m0 y0 y1 y2 y3 y4 y5 m := by kernel_rfl
def k44_2 (call : CL) (n : Nat) (m0 : Mem) : KN := (fun e m => endK f44 m0 .nrm e m)
def x44_2 (call : CL) (n : Nat) (m0 : Mem) : KX := (endK f44 m0)
def S44_2 (call : CL) (n : Nat) (m0 : Mem) (y0 y1 y2 y3 y4 y5 : AV) (m : Mem) : Rho := G44_2 call n m0 y0 y1 y2 y3 y4 y5 m
def d44_2 (call : CL) (n : Nat) (m0 : Mem) (y0 y1 y2 y3 y4 y5 : AV) (m : Mem) : Rho := evK call n b44_2 [(0, y0), (1, y1), (3, y2), (4, y3), (5, y4), (11, y5)] m (k44_2 call n m0) (x44_2 call n m0)
theorem l44_2 {call : CL} {n : Nat} {m0 : Mem} : d44_2 call n m0 = S44_2 call n m0 := by
  funext y0 y1 y2 y3 y4 y5 m
  have h : d44_2 call n m0 y0 y1 y2 y3 y4 y5 m = G44_2 call n m0 y0 y1 y2 y3 y4 y5 m := Eq.mp (by kernel_rfl) (g44_2 call n m0 y0 y1 y2 y3 y4 y5 m)
  exact h
def G44_3 (call : CL) (n : Nat) (m0 : Mem) (Q44_2 : Y6) (y0 y1 y2 y3 y4 : AV) (m : Mem) : Rho :=
  buildK [(.int .i64 0), (.int .i64 0)] [(0, 1, AV.untag1 y0), (1, 1, AV.untag1 y1)] fun a0 =>
  newK [(.int .i64 0), (.int .i64 0)] m fun a1 m2 =>
  storeK 2 a1 a0 m2 fun a3 m4 =>
  loadK none y2 m4 fun a5 m6 =>
  loadK (some 2) a1 m6 fun a7 m8 =>
  lookupK ⟨[.i, .i], true⟩ (.int .i64 0) true a5 a7 m8 fun a9 =>
  extractK a9 0 fun a10 =>
  extractK a9 1 fun a11 =>
  condK a11
  (retK false false m0 [a10] m8)
  (Q44_2 y0 y1 y2 y3 y4 a1 m8)
theorem g44_3 (call : CL) (n : Nat) (m0 : Mem) (b44_2 : C) (y0 y1 y2 y3 y4 : AV) (m : Mem) : evK call n (c44_3 b44_2) [(0, y0), (1, y1), (3, y2), (4, y3), (5, y4)] m (fun e m => endK f44 m0 .nrm e m) (endK f44 m0) = G44_3 call n m0 (fun x0 x1 x2 x3 x4 x5 m => evK call n b44_2 [(0, x0), (1, x1), (3, x2), (4, x3), (5, x4), (11, x5)] m (fun e m => endK f44 m0 .nrm e m) (endK f44 m0)) y0 y1 y2 y3 y4 m := by kernel_rfl
def k44_3 (call : CL) (n : Nat) (m0 : Mem) : KN := (fun e m => endK f44 m0 .nrm e m)
def x44_3 (call : CL) (n : Nat) (m0 : Mem) : KX := (endK f44 m0)
def S44_3 (call : CL) (n : Nat) (m0 : Mem) (y0 y1 y2 y3 y4 : AV) (m : Mem) : Rho := G44_3 call n m0 (S44_2 call n m0) y0 y1 y2 y3 y4 m
def d44_3 (call : CL) (n : Nat) (m0 : Mem) (y0 y1 y2 y3 y4 : AV) (m : Mem) : Rho := evK call n b44_3 [(0, y0), (1, y1), (3, y2), (4, y3), (5, y4)] m (k44_3 call n m0) (x44_3 call n m0)
theorem l44_3 {call : CL} {n : Nat} {m0 : Mem} : d44_3 call n m0 = S44_3 call n m0 := by
  funext y0 y1 y2 y3 y4 m
  have h : d44_3 call n m0 y0 y1 y2 y3 y4 m = G44_3 call n m0 (d44_2 call n m0) y0 y1 y2 y3 y4 m := Eq.mp (by kernel_rfl) (g44_3 call n m0 b44_2 y0 y1 y2 y3 y4 m)
  rw [l44_2] at h; exact h
def G44 (call : CL) (n : Nat) (m0 : Mem) (Q44_3 : Y5) (y0 y1 y2 y3 y4 y5 : AV) (m : Mem) : Rho :=
  loadK none y2 m fun a0 m1 =>
  callK call a0 false [y0, y1] m1 fun a2 m3 =>
  extractK a2 0 fun a4 =>
  extractK a2 1 fun a5 =>
  condK a5
  (retK false false m0 [a4] m3)
  (Q44_3 y0 y1 y3 y4 y5 m3)
theorem g44 (call : CL) (n : Nat) (m0 : Mem) (b44_3 : C) (y0 y1 y2 y3 y4 y5 : AV) (m : Mem) : evK call n (c44 b44_3) [(0, y0), (1, y1), (2, y2), (3, y3), (4, y4), (5, y5)] m (fun e m => endK f44 m0 .nrm e m) (endK f44 m0) = G44 call n m0 (fun x0 x1 x2 x3 x4 m => evK call n b44_3 [(0, x0), (1, x1), (3, x2), (4, x3), (5, x4)] m (fun e m => endK f44 m0 .nrm e m) (endK f44 m0)) y0 y1 y2 y3 y4 y5 m := by kernel_rfl
def S44 (call : CL) (n : Nat) (m0 : Mem) (y0 y1 y2 y3 y4 y5 : AV) : Rho := G44 call n m0 (S44_3 call n m0) y0 y1 y2 y3 y4 y5 { m0 with bad := none }
theorem s44 (call : CL) (n : Nat) (m0 : Mem) (y0 y1 y2 y3 y4 y5 : AV) : bodyK call n f44 [y0, y1, y2, y3, y4, y5] m0 = S44 call n m0 y0 y1 y2 y3 y4 y5 :=
  have h : bodyK call n f44 [y0, y1, y2, y3, y4, y5] m0 = G44 call n m0 (d44_3 call n m0) y0 y1 y2 y3 y4 y5 { m0 with bad := none } := Eq.mp (by kernel_rfl) (g44 call n m0 b44_3 y0 y1 y2 y3 y4 y5 { m0 with bad := none })
  by rw [l44_3] at h; exact h
def F44 : SF := fun call n vs m0 => unc vs fun x0 vs => unc vs fun x1 vs => unc vs fun x2 vs => unc vs fun x3 vs => unc vs fun x4 vs => unc vs fun x5 vs => unz vs (S44 call n m0 x0 x1 x2 x3 x4 x5)
theorem F44_ok {orc : List AV → Mem → Option (AV × Mem)} : SOk 44 { f44 with orc := orc } F44 := by
  intro call n vs m0 ho r h0
  simp only [F44] at h0
  obtain ⟨y0, v0, rfl, h1⟩ := unc_some h0
  obtain ⟨y1, v1, rfl, h2⟩ := unc_some h1
  obtain ⟨y2, v2, rfl, h3⟩ := unc_some h2
  obtain ⟨y3, v3, rfl, h4⟩ := unc_some h3
  obtain ⟨y4, v4, rfl, h5⟩ := unc_some h4
  obtain ⟨y5, v5, rfl, h6⟩ := unc_some h5
  obtain ⟨rfl, hz⟩ := unz_some h6
  exact bodyK_le ho rfl r (Eq.mp (by kernel_rfl) ((s44 call n m0 y0 y1 y2 y3 y4 y5).trans hz))

-- (*resolvent/pos.table).top
def G45_0 (call : CL) (n : Nat) (m0 : Mem) (y0 y1 : AV) (m : Mem) : Rho :=
  nilK y0 fun a0 =>
  vK (aFieldAddr 0 1 a0) m fun a1 m2 =>
  loadK none a1 m2 fun a3 m4 =>
  binK .sub y1 (.int .i64 2) fun a5 =>
  vK (aIndexAddr m4 3 a3 a5) m4 fun a6 m7 =>
  vK (aFieldAddr 0 1 a6) m7 fun a8 m9 =>
  loadK none a8 m9 fun a10 m11 =>
  retK false false m0 [a10] m11
theorem g45_0 (call : CL) (n : Nat) (m0 : Mem) (y0 y1 : AV) (m : Mem) : evK call n b45_0 [(0, y0), (1, y1)] m (fun e m => endK f45 m0 .nrm e m) (endK f45 m0) = G45_0 call n m0 y0 y1 m := by kernel_rfl
def k45_0 (call : CL) (n : Nat) (m0 : Mem) : KN := (fun e m => endK f45 m0 .nrm e m)
def x45_0 (call : CL) (n : Nat) (m0 : Mem) : KX := (endK f45 m0)
def S45_0 (call : CL) (n : Nat) (m0 : Mem) (y0 y1 : AV) (m : Mem) : Rho := G45_0 call n m0 y0 y1 m
def d45_0 (call : CL) (n : Nat) (m0 : Mem) (y0 y1 : AV) (m : Mem) : Rho := evK call n b45_0 [(0, y0), (1, y1)] m (k45_0 call n m0) (x45_0 call n m0)
theorem l45_0 {call : CL} {n : Nat} {m0 : Mem} : d45_0 call n m0 = S45_0 call n m0 := by
  funext y0 y1 m
  have h : d45_0 call n m0 y0 y1 m = G45_0 call n m0 y0 y1 m := Eq.mp (by kernel_rfl) (g45_0 call n m0 y0 y1 m)
  exact h
def G45 (call : CL) (n : Nat) (m0 : Mem) (Q45_0 : Y2) (y0 y1 : AV) (m : Mem) : Rho :=
  binK .lss y1 (.int .i64 2) fun a0 =>
  condK a0
  (retK false false m0 [(.int .i64 9223372036854775807)] m)
  (Q45_0 y0 y1 m)
theorem g45 (call : CL) (n : Nat) (m0 : Mem) (b45_0 : C) (y0 y1 : AV) (m : Mem) : evK call n (c45 b45_0) [(0, y0), (1, y1)] m (fun e m => endK f45 m0 .nrm e m) (endK f45 m0) = G45 call n m0 (fun x0 x1 m => evK call n b45_0 [(0, x0), (1, x1)] m (fun e m => endK f45 m0 .nrm e m) (endK f45 m0)) y0 y1 m := by kernel_rfl
def S45 (call : CL) (n : Nat) (m0 : Mem) (y0 y1 : AV) : Rho := G45 call n m0 (S45_0 call n m0) y0 y1 { m0 with bad := none }
theorem s45 (call : CL) (n : Nat) (m0 : Mem) (y0 y1 : AV) : bodyK call n f45 [y0, y1] m0 = S45 call n m0 y0 y1 :=
  have h : bodyK call n f45 [y0, y1] m0 = G45 call n m0 (d45_0 call n m0) y0 y1 { m0 with bad := none } := Eq.mp (by kernel_rfl) (g45 call n m0 b45_0 y0 y1 { m0 with bad := none })
  by rw [l45_0] at h; exact h
def F45 : SF := fun call n vs m0 => unc vs fun x0 vs => unc vs fun x1 vs => unz vs (S45 call n m0 x0 x1)
theorem F45_ok {orc : List AV → Mem → Option (AV × Mem)} : SOk 45 { f45 with orc := orc } F45 := by
  intro call n vs m0 ho r h0
  simp only [F45] at h0
  obtain ⟨y0, v0, rfl, h1⟩ := unc_some h0
  obtain ⟨y1, v1, rfl, h2⟩ := unc_some h1
  obtain ⟨rfl, hz⟩ := unz_some h2
  exact bodyK_le ho rfl r (Eq.mp (by kernel_rfl) ((s45 call n m0 y0 y1).trans hz))

-- (*resolvent/pos.table).ways
def G46_1 (call : CL) (n : Nat) (m0 : Mem) (y0 y1 : AV) (m : Mem) : Rho :=
  nilK y0 fun a0 =>
  vK (aFieldAddr 0 1 a0) m fun a1 m2 =>
  loadK none a1 m2 fun a3 m4 =>
  binK .sub y1 (.int .i64 2) fun a5 =>
  vK (aIndexAddr m4 3 a3 a5) m4 fun a6 m7 =>
  vK (aFieldAddr 1 1 a6) m7 fun a8 m9 =>
  loadK none a8 m9 fun a10 m11 =>
  nilK y0 fun a12 =>
  vK (aFieldAddr 0 1 a12) m11 fun a13 m14 =>
  loadK none a13 m14 fun a15 m16 =>
  binK .sub y1 (.int .i64 2) fun a17 =>
  vK (aIndexAddr m16 3 a15 a17) m16 fun a18 m19 =>
  vK (aFieldAddr 2 1 a18) m19 fun a20 m21 =>
  loadK none a20 m21 fun a22 m23 =>
  retK false false m0 [a10, a22] m23
theorem g46_1 (call : CL) (n : Nat) (m0 : Mem) (y0 y1 : AV) (m : Mem) : evK call n b46_1 [(0, y0), (1, y1)] m (fun e m => endK f46 m0 .nrm e m) (endK f46 m0) = G46_1 call n m0 y0 y1 m := by kernel_rfl
def k46_1 (call : CL) (n : Nat) (m0 : Mem) : KN := (fun e m => endK f46 m0 .nrm e m)
def x46_1 (call : CL) (n : Nat) (m0 : Mem) : KX := (endK f46 m0)
def S46_1 (call : CL) (n : Nat) (m0 : Mem) (y0 y1 : AV) (m : Mem) : Rho := G46_1 call n m0 y0 y1 m
def d46_1 (call : CL) (n : Nat) (m0 : Mem) (y0 y1 : AV) (m : Mem) : Rho := evK call n b46_1 [(0, y0), (1, y1)] m (k46_1 call n m0) (x46_1 call n m0)
theorem l46_1 {call : CL} {n : Nat} {m0 : Mem} : d46_1 call n m0 = S46_1 call n m0 := by
  funext y0 y1 m
  have h : d46_1 call n m0 y0 y1 m = G46_1 call n m0 y0 y1 m := Eq.mp (by kernel_rfl) (g46_1 call n m0 y0 y1 m)
  exact h
def G46 (call : CL) (n : Nat) (m0 : Mem) (Q46_1 : Y2) (y0 y1 y2 : AV) (m : Mem) : Rho :=
  callK call (.func 45 [] []) false [y0, y1] m fun a0 m1 =>
  binK .neq a0 y2 fun a2 =>
  condK a2
  (retK false false m0 [y1, y1] m1)
  (Q46_1 y0 y1 m1)
theorem g46 (call : CL) (n : Nat) (m0 : Mem) (b46_1 : C) (y0 y1 y2 : AV) (m : Mem) : evK call n (c46 b46_1) [(0, y0), (1, y1), (2, y2)] m (fun e m => endK f46 m0 .nrm e m) (endK f46 m0) = G46 call n m0 (fun x0 x1 m => evK call n b46_1 [(0, x0), (1, x1)] m (fun e m => endK f46 m0 .nrm e m) (endK f46 m0)) y0 y1 y2 m := by kernel_rfl
def S46 (call : CL) (n : Nat) (m0 : Mem) (y0 y1 y2 : AV) : Rho := G46 call n m0 (S46_1 call n m0) y0 y1 y2 { m0 with bad := none }
theorem s46 (call : CL) (n : Nat) (m0 : Mem) (y0 y1 y2 : AV) : bodyK call n f46 [y0, y1, y2] m0 = S46 call n m0 y0 y1 y2 :=
  have h : bodyK call n f46 [y0, y1, y2] m0 = G46 call n m0 (d46_1 call n m0) y0 y1 y2 { m0 with bad := none } := Eq.mp (by kernel_rfl) (g46 call n m0 b46_1 y0 y1 y2 { m0 with bad := none })
  by rw [l46_1] at h; exact h
def F46 : SF := fun call n vs m0 => unc vs fun x0 vs => unc vs fun x1 vs => unc vs fun x2 vs => unz vs (S46 call n m0 x0 x1 x2)
theorem F46_ok {orc : List AV → Mem → Option (AV × Mem)} : SOk 46 { f46 with orc := orc } F46 := by
  intro call n vs m0 ho r h0
  simp only [F46] at h0
  obtain ⟨y0, v0, rfl, h1⟩ := unc_some h0
  obtain ⟨y1, v1, rfl, h2⟩ := unc_some h1
  obtain ⟨y2, v2, rfl, h3⟩ := unc_some h2
  obtain ⟨rfl, hz⟩ := unz_some h3
  exact bodyK_le ho rfl r (Eq.mp (by kernel_rfl) ((s46 call n m0 y0 y1 y2).trans hz))

-- resolvent/pos.bit
def G47_0 (call : CL) (n : Nat) (m0 : Mem) (m : Mem) : Rho :=
  retK false false m0 [(.int .i64 0)] m
theorem g47_0 (call : CL) (n : Nat) (m0 : Mem) (m : Mem) : evK call n b47_0 [] m (fun e m => endK f47 m0 .nrm e m) (endK f47 m0) = G47_0 call n m0 m := by kernel_rfl
def k47_0 (call : CL) (n : Nat) (m0 : Mem) : KN := (fun e m => endK f47 m0 .nrm e m)
def x47_0 (call : CL) (n : Nat) (m0 : Mem) : KX := (endK f47 m0)
def S47_0 (call : CL) (n : Nat) (m0 : Mem) (m : Mem) : Rho := G47_0 call n m0 m
def d47_0 (call : CL) (n : Nat) (m0 : Mem) (m : Mem) : Rho := evK call n b47_0 [] m (k47_0 call n m0) (x47_0 call n m0)
theorem l47_0 {call : CL} {n : Nat} {m0 : Mem} : d47_0 call n m0 = S47_0 call n m0 := by
  funext m
  have h : d47_0 call n m0 m = G47_0 call n m0 m := Eq.mp (by kernel_rfl) (g47_0 call n m0 m)
  exact h
def G47 (call : CL) (n : Nat) (m0 : Mem) (Q47_0 : Y0) (y0 : AV) (m : Mem) : Rho :=
  condK y0
  (retK false false m0 [(.int .i64 1)] m)
  (Q47_0 m)
theorem g47 (call : CL) (n : Nat) (m0 : Mem) (b47_0 : C) (y0 : AV) (m : Mem) : evK call n (c47 b47_0) [(0, y0)] m (fun e m => endK f47 m0 .nrm e m) (endK f47 m0) = G47 call n m0 (fun m => evK call n b47_0 [] m (fun e m => endK f47 m0 .nrm e m) (endK f47 m0)) y0 m := by kernel_rfl
def S47 (call : CL) (n : Nat) (m0 : Mem) (y0 : AV) : Rho := G47 call n m0 (S47_0 call n m0) y0 { m0 with bad := none }
theorem s47 (call : CL) (n : Nat) (m0 : Mem) (y0 : AV) : bodyK call n f47 [y0] m0 = S47 call n m0 y0 :=
  have h : bodyK call n f47 [y0] m0 = G47 call n m0 (d47_0 call n m0) y0 { m0 with bad := none } := Eq.mp (by kernel_rfl) (g47 call n m0 b47_0 y0 { m0 with bad := none })
  by rw [l47_0] at h; exact h
def F47 : SF := fun call n vs m0 => unc vs fun x0 vs => unz vs (S47 call n m0 x0)
theorem F47_ok {orc : List AV → Mem → Option (AV × Mem)} : SOk 47 { f47 with orc := orc } F47 := by
  intro call n vs m0 ho r h0
  simp only [F47] at h0
  obtain ⟨y0, v0, rfl, h1⟩ := unc_some h0
  obtain ⟨rfl, hz⟩ := unz_some h1
  exact bodyK_le ho rfl r (Eq.mp (by kernel_rfl) ((s47 call n m0 y0).trans hz))

-- internal/strconv.FormatBool
def G48_0 (call : CL) (n : Nat) (m0 : Mem) (m : Mem) : Rho :=
  retK false false m0 [(.str ⟨#[102, 97, 108, 115, 101]⟩)] m
theorem g48_0 (call : CL) (n : Nat) (m0 : Mem) (m : Mem) : evK call n b48_0 [] m (fun e m => endK f48 m0 .nrm e m) (endK f48 m0) = G48_0 call n m0 m := by kernel_rfl
def k48_0 (call : CL) (n : Nat) (m0 : Mem) : KN := (fun e m => endK f48 m0 .nrm e m)
def x48_0 (call : CL) (n : Nat) (m0 : Mem) : KX := (endK f48 m0)
def S48_0 (call : CL) (n : Nat) (m0 : Mem) (m : Mem) : Rho := G48_0 call n m0 m
def d48_0 (call : CL) (n : Nat) (m0 : Mem) (m : Mem) : Rho := evK call n b48_0 [] m (k48_0 call n m0) (x48_0 call n m0)
theorem l48_0 {call : CL} {n : Nat} {m0 : Mem} : d48_0 call n m0 = S48_0 call n m0 := by
  funext m
  have h : d48_0 call n m0 m = G48_0 call n m0 m := Eq.mp (by kernel_rfl) (g48_0 call n m0 m)
  exact h
def G48 (call : CL) (n : Nat) (m0 : Mem) (Q48_0 : Y0) (y0 : AV) (m : Mem) : Rho :=
  condK y0
  (retK false false m0 [(.str ⟨#[116, 114, 117, 101]⟩)] m)
  (Q48_0 m)
theorem g48 (call : CL) (n : Nat) (m0 : Mem) (b48_0 : C) (y0 : AV) (m : Mem) : evK call n (c48 b48_0) [(0, y0)] m (fun e m => endK f48 m0 .nrm e m) (endK f48 m0) = G48 call n m0 (fun m => evK call n b48_0 [] m (fun e m => endK f48 m0 .nrm e m) (endK f48 m0)) y0 m := by kernel_rfl
def S48 (call : CL) (n : Nat) (m0 : Mem) (y0 : AV) : Rho := G48 call n m0 (S48_0 call n m0) y0 { m0 with bad := none }
theorem s48 (call : CL) (n : Nat) (m0 : Mem) (y0 : AV) : bodyK call n f48 [y0] m0 = S48 call n m0 y0 :=
  have h : bodyK call n f48 [y0] m0 = G48 call n m0 (d48_0 call n m0) y0 { m0 with bad := none } := Eq.mp (by kernel_rfl) (g48 call n m0 b48_0 y0 { m0 with bad := none })
  by rw [l48_0] at h; exact h
def F48 : SF := fun call n vs m0 => unc vs fun x0 vs => unz vs (S48 call n m0 x0)
theorem F48_ok {orc : List AV → Mem → Option (AV × Mem)} : SOk 48 { f48 with orc := orc } F48 := by
  intro call n vs m0 ho r h0
  simp only [F48] at h0
  obtain ⟨y0, v0, rfl, h1⟩ := unc_some h0
  obtain ⟨rfl, hz⟩ := unz_some h1
  exact bodyK_le ho rfl r (Eq.mp (by kernel_rfl) ((s48 call n m0 y0).trans hz))

-- (*resolvent/pos.table).take$1
def G50_0 (call : CL) (n : Nat) (m0 : Mem) (y0 y1 y2 y3 y4 : AV) (m : Mem) : Rho :=
  loadK none y2 m fun a0 m1 =>
  nilK a0 fun a2 =>
  vK (aFieldAddr 0 1 a2) m1 fun a3 m4 =>
  loadK none a3 m4 fun a5 m6 =>
  binK .sub y0 (.int .i64 2) fun a7 =>
  vK (aIndexAddr m6 3 a5 a7) m6 fun a8 m9 =>
  loadK (some 3) a8 m9 fun a10 m11 =>
  newK [(.int .i64 0), (.int .i64 0), (.int .i64 0)] m11 fun a12 m13 =>
  storeK 3 a12 a10 m13 fun a14 m15 =>
  loadK none y3 m15 fun a16 m17 =>
  vK (aFieldAddr 1 1 a12) m17 fun a18 m19 =>
  loadK none a18 m19 fun a20 m21 =>
  callK call a16 false [a20] m21 fun a22 m23 =>
  loadK none y3 m23 fun a24 m25 =>
  vK (aFieldAddr 2 1 a12) m25 fun a26 m27 =>
  loadK none a26 m27 fun a28 m29 =>
  callK call a24 false [a28] m29 fun a30 m31 =>
  vK (aFieldAddr 0 1 y4) m31 fun a32 m33 =>
  loadK none a32 m33 fun a34 m35 =>
  vK (aFieldAddr 0 1 a12) m35 fun a36 m37 =>
  loadK none a36 m37 fun a38 m39 =>
  buildK [(.int .i64 0), (.int .i64 0), (.int .i64 0)] [(0, 1, AV.untag1 a38), (1, 1, AV.untag1 a22), (2, 1, AV.untag1 a30)] fun a40 =>
  buildSliceK 3 [(.int .i64 0), (.int .i64 0), (.int .i64 0)] 1 false [(0 * 3, 3, AV.untag a40)] m39 fun a41 m42 =>
  appendK 3 24 0 a34 a41 m42 fun a43 m44 =>
  vK (aFieldAddr 0 1 y4) m44 fun a45 m46 =>
  storeK 1 a45 a43 m46 fun a47 m48 =>
  loadK none y1 m48 fun a49 m50 =>
  vK (aFieldAddr 0 1 y4) m50 fun a51 m52 =>
  loadK none a51 m52 fun a53 m54 =>
  vK (aLen m54 1 a53) m54 fun a55 m56 =>
  binK .add a55 (.int .i64 1) fun a57 =>
  mapUpdateK ⟨[.i], false⟩ a49 y0 a57 m56 fun a58 m59 =>
  loadK none y1 m59 fun a60 m61 =>
  lookupK ⟨[.i], false⟩ (.int .i64 0) false a60 y0 m61 fun a62 =>
  retK false false m0 [a62] m61
theorem g50_0 (call : CL) (n : Nat) (m0 : Mem) (y0 y1 y2 y3 y4 : AV) (m : Mem) : evK call n b50_0 [(0, y0), (1, y1), (2, y2), (3, y3), (4, y4)] m (fun e m => endK f50 m0 .nrm e m) (endK f50 m0) = G50_0 call n m0 y0 y1 y2 y3 y4 m := by kernel_rfl
def k50_0 (call : CL) (n : Nat) (m0 : Mem) : KN := (fun e m => endK f50 m0 .nrm e m)
def x50_0 (call : CL) (n : Nat) (m0 : Mem) : KX := (endK f50 m0)
def S50_0 (call : CL) (n : Nat) (m0 : Mem) (y0 y1 y2 y3 y4 : AV) (m : Mem) : Rho := G50_0 call n m0 y0 y1 y2 y3 y4 m
def d50_0 (call : CL) (n : Nat) (m0 : Mem) (y0 y1 y2 y3 y4 : AV) (m : Mem) : Rho := evK call n b50_0 [(0, y0), (1, y1), (2, y2), (3, y3), (4, y4)] m (k50_0 call n m0) (x50_0 call n m0)
theorem l50_0 {call : CL} {n : Nat} {m0 : Mem} : d50_0 call n m0 = S50_0 call n m0 := by
  funext y0 y1 y2 y3 y4 m
  have h : d50_0 call n m0 y0 y1 y2 y3 y4 m = G50_0 call n m0 y0 y1 y2 y3 y4 m := Eq.mp (by kernel_rfl) (g50_0 call n m0 y0 y1 y2 y3 y4 m)
  exact h
def G50 (call : CL) (n : Nat) (m0 : Mem) (Q50_0 : Y5) (y0 y1 y2 y3 y4 : AV) (m : Mem) : Rho :=
  loadK none y1 m fun a0 m1 =>
  lookupK ⟨[.i], false⟩ (.int .i64 0) true a0 y0 m1 fun a2 =>
  extractK a2 0 fun a3 =>
  extractK a2 1 fun a4 =>
  condK a4
  (retK false false m0 [a3] m1)
  (Q50_0 y0 y1 y2 y3 y4 m1)
theorem g50 (call : CL) (n : Nat) (m0 : Mem) (b50_0 : C) (y0 y1 y2 y3 y4 : AV) (m : Mem) : evK call n (c50 b50_0) [(0, y0), (1, y1), (2, y2), (3, y3), (4, y4)] m (fun e m => endK f50 m0 .nrm e m) (endK f50 m0) = G50 call n m0 (fun x0 x1 x2 x3 x4 m => evK call n b50_0 [(0, x0), (1, x1), (2, x2), (3, x3), (4, x4)] m (fun e m => endK f50 m0 .nrm e m) (endK f50 m0)) y0 y1 y2 y3 y4 m := by kernel_rfl
def S50 (call : CL) (n : Nat) (m0 : Mem) (y0 y1 y2 y3 y4 : AV) : Rho := G50 call n m0 (S50_0 call n m0) y0 y1 y2 y3 y4 { m0 with bad := none }
theorem s50 (call : CL) (n : Nat) (m0 : Mem) (y0 y1 y2 y3 y4 : AV) : bodyK call n f50 [y0, y1, y2, y3, y4] m0 = S50 call n m0 y0 y1 y2 y3 y4 :=
  have h : bodyK call n f50 [y0, y1, y2, y3, y4] m0 = G50 call n m0 (d50_0 call n m0) y0 y1 y2 y3 y4 { m0 with bad := none } := Eq.mp (by kernel_rfl) (g50 call n m0 b50_0 y0 y1 y2 y3 y4 { m0 with bad := none })
  by rw [l50_0] at h; exact h
def F50 : SF := fun call n vs m0 => unc vs fun x0 vs => unc vs fun x1 vs => unc vs fun x2 vs => unc vs fun x3 vs => unc vs fun x4 vs => unz vs (S50 call n m0 x0 x1 x2 x3 x4)
theorem F50_ok {orc : List AV → Mem → Option (AV × Mem)} : SOk 50 { f50 with orc := orc } F50 := by
  intro call n vs m0 ho r h0
  simp only [F50] at h0
  obtain ⟨y0, v0, rfl, h1⟩ := unc_some h0
  obtain ⟨y1, v1, rfl, h2⟩ := unc_some h1
  obtain ⟨y2, v2, rfl, h3⟩ := unc_some h2
  obtain ⟨y3, v3, rfl, h4⟩ := unc_some h3
  obtain ⟨y4, v4, rfl, h5⟩ := unc_some h4
  obtain ⟨rfl, hz⟩ := unz_some h5
  exact bodyK_le ho rfl r (Eq.mp (by kernel_rfl) ((s50 call n m0 y0 y1 y2 y3 y4).trans hz))

-- resolvent/resolventlaw16.hangs
def G51_4 (call : CL) (n : Nat) (m0 : Mem) (m : Mem) : Rho :=
  retK false false m0 [(.bool false)] m
theorem g51_4 (call : CL) (n : Nat) (m0 : Mem) (m : Mem) : evK call n b51_4 [] m (fun e m => endK f51 m0 .nrm e m) (endK f51 m0) = G51_4 call n m0 m := by kernel_rfl
def k51_4 (call : CL) (n : Nat) (m0 : Mem) : KN := (fun e m => endK f51 m0 .nrm e m)
def x51_4 (call : CL) (n : Nat) (m0 : Mem) : KX := (endK f51 m0)
def S51_4 (call : CL) (n : Nat) (m0 : Mem) (m : Mem) : Rho := G51_4 call n m0 m
def d51_4 (call : CL) (n : Nat) (m0 : Mem) (m : Mem) : Rho := evK call n b51_4 [] m (k51_4 call n m0) (x51_4 call n m0)
theorem l51_4 {call : CL} {n : Nat} {m0 : Mem} : d51_4 call n m0 = S51_4 call n m0 := by
  funext m
  have h : d51_4 call n m0 m = G51_4 call n m0 m := Eq.mp (by kernel_rfl) (g51_4 call n m0 m)
  exact h
def G51_1 (call : CL) (n : Nat) (kn : KN) (kx : KX) (y0 y1 y2 : AV) (m : Mem) : Rho :=
  binK .add y2 (.int .i64 1) fun a0 =>
  kn [(0, y0), (1, y1), (5, a0)] m
theorem g51_1 (call : CL) (n : Nat) (kn : KN) (kx : KX) (y0 y1 y2 : AV) (m : Mem) : evK call n b51_1 [(0, y0), (1, y1), (5, y2)] m kn kx = G51_1 call n kn kx y0 y1 y2 m := by kernel_rfl
def k51_1 (call : CL) (n : Nat) (kn : KN) (kx : KX) : KN := kn
def x51_1 (call : CL) (n : Nat) (kn : KN) (kx : KX) : KX := kx
def S51_1 (call : CL) (n : Nat) (kn : KN) (kx : KX) (y0 y1 y2 : AV) (m : Mem) : Rho := G51_1 call n kn kx y0 y1 y2 m
def d51_1 (call : CL) (n : Nat) (kn : KN) (kx : KX) (y0 y1 y2 : AV) (m : Mem) : Rho := evK call n b51_1 [(0, y0), (1, y1), (5, y2)] m (k51_1 call n kn kx) (x51_1 call n kn kx)
theorem l51_1 {call : CL} {n : Nat} {kn : KN} {kx : KX} : d51_1 call n kn kx = S51_1 call n kn kx := by
  funext y0 y1 y2 m
  have h : d51_1 call n kn kx y0 y1 y2 m = G51_1 call n kn kx y0 y1 y2 m := Eq.mp (by kernel_rfl) (g51_1 call n kn kx y0 y1 y2 m)
  exact h
def G51_2 (call : CL) (n : Nat) (kn : KN) (kx : KX) (Q51_1 : Y3) (y0 y1 y2 : AV) (m : Mem) : Rho :=
  binK .shl (.int .i64 1) y1 fun a0 =>
  binK .or y2 a0 fun a1 =>
  binK .shr y0 a1 fun a2 =>
  binK .and a2 (.int .u64 1) fun a3 =>
  binK .shl (.int .i64 1) y1 fun a4 =>
  binK .andNot y2 a4 fun a5 =>
  binK .shr y0 a5 fun a6 =>
  binK .and a6 (.int .u64 1) fun a7 =>
  binK .neq a3 a7 fun a8 =>
  condK a8
  (kx .ret [(4, (.bool true))] m)
  (Q51_1 y0 y1 y2 m)
theorem g51_2 (call : CL) (n : Nat) (kn : KN) (kx : KX) (b51_1 : C) (y0 y1 y2 : AV) (m : Mem) : evK call n (c51_2 b51_1) [(0, y0), (1, y1), (5, y2)] m kn kx = G51_2 call n kn kx (fun x0 x1 x2 m => evK call n b51_1 [(0, x0), (1, x1), (5, x2)] m kn kx) y0 y1 y2 m := by kernel_rfl
def k51_2 (call : CL) (n : Nat) (kn : KN) (kx : KX) : KN := kn
def x51_2 (call : CL) (n : Nat) (kn : KN) (kx : KX) : KX := kx
def S51_2 (call : CL) (n : Nat) (kn : KN) (kx : KX) (y0 y1 y2 : AV) (m : Mem) : Rho := G51_2 call n kn kx (S51_1 call n kn kx) y0 y1 y2 m
def d51_2 (call : CL) (n : Nat) (kn : KN) (kx : KX) (y0 y1 y2 : AV) (m : Mem) : Rho := evK call n b51_2 [(0, y0), (1, y1), (5, y2)] m (k51_2 call n kn kx) (x51_2 call n kn kx)
theorem l51_2 {call : CL} {n : Nat} {kn : KN} {kx : KX} : d51_2 call n kn kx = S51_2 call n kn kx := by
  funext y0 y1 y2 m
  have h : d51_2 call n kn kx y0 y1 y2 m = G51_2 call n kn kx (d51_1 call n kn kx) y0 y1 y2 m := Eq.mp (by kernel_rfl) (g51_2 call n kn kx b51_1 y0 y1 y2 m)
  rw [l51_1] at h; exact h
def G51_3 (call : CL) (n : Nat) (kn : KN) (kx : KX) (Q51_2 : Y3) (y0 y1 y2 : AV) (m : Mem) : Rho :=
  binK .lss y2 (.int .i64 64) fun a0 =>
  condK a0
  (Q51_2 y0 y1 y2 m)
  (kx (.ext 0) [(0, y0), (1, y1), (5, y2), (7, a0)] m)
theorem g51_3 (call : CL) (n : Nat) (kn : KN) (kx : KX) (b51_2 : C) (y0 y1 y2 : AV) (m : Mem) : evK call n (c51_3 b51_2) [(0, y0), (1, y1), (5, y2)] m kn kx = G51_3 call n kn kx (fun x0 x1 x2 m => evK call n b51_2 [(0, x0), (1, x1), (5, x2)] m kn kx) y0 y1 y2 m := by kernel_rfl
def S51_3 (call : CL) (n : Nat) (kn : KN) (kx : KX) (y0 y1 y2 : AV) (m : Mem) : Rho := G51_3 call n kn kx (S51_2 call n kn kx) y0 y1 y2 m
def d51_3 (call : CL) (n : Nat) (kn : KN) (kx : KX) (y0 y1 y2 : AV) (m : Mem) : Rho := evK call n b51_3 [(0, y0), (1, y1), (5, y2)] m kn kx
theorem l51_3 {call : CL} {n : Nat} : d51_3 call n = S51_3 call n := by
  funext kn kx y0 y1 y2 m
  have h : d51_3 call n kn kx y0 y1 y2 m = G51_3 call n kn kx (d51_2 call n kn kx) y0 y1 y2 m := Eq.mp (by kernel_rfl) (g51_3 call n kn kx b51_2 y0 y1 y2 m)
  rw [l51_2] at h; exact h
def G51 (call : CL) (n : Nat) (m0 : Mem) (B51_3 : KN → KX → Y3) (Q51_4 : Y0) (y0 y1 : AV) (m : Mem) : Rho :=
  loopV [0, 1, 5] none (fun vs m kn kx => unc vs fun x0 vs => unc vs fun x1 vs => unc vs fun x2 vs => unz vs (B51_3 kn kx x0 x1 x2 m)) (blkK 0 (fun e m => keepK e [] fun vs => unz vs (Q51_4 m)) (endK f51 m0)) n [y0, y1, (.int .i64 0)] m
theorem g51 (call : CL) (n : Nat) (m0 : Mem) (b51_3 : C) (b51_4 : C) (y0 y1 : AV) (m : Mem) : evK call n (c51 b51_3 b51_4) [(0, y0), (1, y1)] m (fun e m => endK f51 m0 .nrm e m) (endK f51 m0) = G51 call n m0 (fun kn kx x0 x1 x2 m => evK call n b51_3 [(0, x0), (1, x1), (5, x2)] m kn kx) (fun m => evK call n b51_4 [] m (fun e m => endK f51 m0 .nrm e m) (endK f51 m0)) y0 y1 m := by kernel_rfl
def S51 (call : CL) (n : Nat) (m0 : Mem) (y0 y1 : AV) : Rho := G51 call n m0 (S51_3 call n) (S51_4 call n m0) y0 y1 { m0 with bad := none }
theorem s51 (call : CL) (n : Nat) (m0 : Mem) (y0 y1 : AV) : bodyK call n f51 [y0, y1] m0 = S51 call n m0 y0 y1 :=
  have h : bodyK call n f51 [y0, y1] m0 = G51 call n m0 (d51_3 call n) (d51_4 call n m0) y0 y1 { m0 with bad := none } := Eq.mp (by kernel_rfl) (g51 call n m0 b51_3 b51_4 y0 y1 { m0 with bad := none })
  by rw [l51_3, l51_4] at h; exact h
def F51 : SF := fun call n vs m0 => unc vs fun x0 vs => unc vs fun x1 vs => unz vs (S51 call n m0 x0 x1)
theorem F51_ok {orc : List AV → Mem → Option (AV × Mem)} : SOk 51 { f51 with orc := orc } F51 := by
  intro call n vs m0 ho r h0
  simp only [F51] at h0
  obtain ⟨y0, v0, rfl, h1⟩ := unc_some h0
  obtain ⟨y1, v1, rfl, h2⟩ := unc_some h1
  obtain ⟨rfl, hz⟩ := unz_some h2
  exact bodyK_le ho rfl r (Eq.mp (by kernel_rfl) ((s51 call n m0 y0 y1).trans hz))

end
end Go.Proofs.P16
