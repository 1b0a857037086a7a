import Derived.Test.YtdddcofggemnkaaP17ShA
namespace Go.Proofs.P17
set_option linter.all false
open Go Go.Am
noncomputable section
-- resolvent/pairs.Of$1
def G64 (call : CL) (n : Nat) (m0 : Mem) (y0 y1 : AV) (m : Mem) : Rho :=
  boxK y0 m fun a0 m1 =>
  boxK y1 m1 fun a2 m3 =>
  vK (aIndexAddrA 2 1 a0 (.int .i64 0)) m3 fun a4 m5 =>
  loadK none a4 m5 fun a6 m7 =>
  vK (aIndexAddrA 2 1 a2 (.int .i64 0)) m7 fun a8 m9 =>
  loadK none a8 m9 fun a10 m11 =>
  callK call (.func 66 [] []) false [a6, a10] m11 fun a12 m13 =>
  vK (aIndexAddrA 2 1 a0 (.int .i64 1)) m13 fun a14 m15 =>
  loadK none a14 m15 fun a16 m17 =>
  vK (aIndexAddrA 2 1 a2 (.int .i64 1)) m17 fun a18 m19 =>
  loadK none a18 m19 fun a20 m21 =>
  callK call (.func 66 [] []) false [a16, a20] m21 fun a22 m23 =>
  buildSliceK 1 [(.int .i64 0)] 2 false [(0 * 1, 1, AV.untag a12), (1 * 1, 1, AV.untag a22)] m23 fun a24 m25 =>
  callK call (.func 65 [] []) false [a24] m25 fun a26 m27 =>
  cond (stayK [m3, m13, m23, m27] [(fun m => m.load none a14, a16, 0, 2, true), (fun m => m.load none a18, a20, 0, 2, true)]) (retK false false m0 [a26] m27) none
theorem g64 (call : CL) (n : Nat) (m0 : Mem) (y0 y1 : AV) (m : Mem) : evK call n b64 [(0, y0), (1, y1)] m (fun e m => endK f64 m0 .nrm e m) (endK f64 m0) = G64 call n m0 y0 y1 m := by kernel_rfl
def S64 (call : CL) (n : Nat) (m0 : Mem) (y0 y1 : AV) : Rho := G64 call n m0 y0 y1 { m0 with bad := none }
theorem s64 (call : CL) (n : Nat) (m0 : Mem) (y0 y1 : AV) : bodyK call n f64 [y0, y1] m0 = S64 call n m0 y0 y1 :=
  have h : bodyK call n f64 [y0, y1] m0 = G64 call n m0 y0 y1 { m0 with bad := none } := Eq.mp (by kernel_rfl) (g64 call n m0 y0 y1 { m0 with bad := none })
  h
def F64 : SF := fun call n vs m0 => unc vs fun x0 vs => unc vs fun x1 vs => unz vs (S64 call n m0 x0 x1)
theorem F64_ok {orc : List AV → Mem → Option (AV × Mem)} : SOk 64 { f64 with orc := orc } F64 := by
  intro call n vs m0 ho r h0
  simp only [F64] at h0
  obtain ⟨y0, v0, rfl, h1⟩ := unc_some h0
  obtain ⟨y1, v1, rfl, h2⟩ := unc_some h1
  obtain ⟨rfl, hz⟩ := unz_some h2
  exact bodyK_le ho rfl r (Eq.mp (by kernel_rfl) ((s64 call n m0 y0 y1).trans hz))

-- cmp.Or[int]
def G65_3 (call : CL) (n : Nat) (m0 : Mem) (y0 : AV) (m : Mem) : Rho :=
  retK false false m0 [y0] m
theorem g65_3 (call : CL) (n : Nat) (m0 : Mem) (y0 : AV) (m : Mem) : evK call n b65_3 [(3, y0)] m (fun e m => endK f65 m0 .nrm e m) (endK f65 m0) = G65_3 call n m0 y0 m := by kernel_rfl
def k65_3 (call : CL) (n : Nat) (m0 : Mem) : KN := (fun e m => endK f65 m0 .nrm e m)
def x65_3 (call : CL) (n : Nat) (m0 : Mem) : KX := (endK f65 m0)
def S65_3 (call : CL) (n : Nat) (m0 : Mem) (y0 : AV) (m : Mem) : Rho := G65_3 call n m0 y0 m
def d65_3 (call : CL) (n : Nat) (m0 : Mem) (y0 : AV) (m : Mem) : Rho := evK call n b65_3 [(3, y0)] m (k65_3 call n m0) (x65_3 call n m0)
theorem l65_3 {call : CL} {n : Nat} {m0 : Mem} : d65_3 call n m0 = S65_3 call n m0 := by
  funext y0 m
  have h : d65_3 call n m0 y0 m = G65_3 call n m0 y0 m := Eq.mp (by kernel_rfl) (g65_3 call n m0 y0 m)
  exact h
def G65_0 (call : CL) (n : Nat) (kn : KN) (kx : KX) (y0 y1 y2 y3 : AV) (m : Mem) : Rho :=
  binK .add y3 (.int .i64 1) fun a0 =>
  kn [(3, y0), (6, y1), (7, y2), (8, a0)] m
theorem g65_0 (call : CL) (n : Nat) (kn : KN) (kx : KX) (y0 y1 y2 y3 : AV) (m : Mem) : evK call n b65_0 [(3, y0), (6, y1), (7, y2), (8, y3)] m kn kx = G65_0 call n kn kx y0 y1 y2 y3 m := by kernel_rfl
def k65_0 (call : CL) (n : Nat) (kn : KN) (kx : KX) : KN := kn
def x65_0 (call : CL) (n : Nat) (kn : KN) (kx : KX) : KX := kx
def S65_0 (call : CL) (n : Nat) (kn : KN) (kx : KX) (y0 y1 y2 y3 : AV) (m : Mem) : Rho := G65_0 call n kn kx y0 y1 y2 y3 m
def d65_0 (call : CL) (n : Nat) (kn : KN) (kx : KX) (y0 y1 y2 y3 : AV) (m : Mem) : Rho := evK call n b65_0 [(3, y0), (6, y1), (7, y2), (8, y3)] m (k65_0 call n kn kx) (x65_0 call n kn kx)
theorem l65_0 {call : CL} {n : Nat} {kn : KN} {kx : KX} : d65_0 call n kn kx = S65_0 call n kn kx := by
  funext y0 y1 y2 y3 m
  have h : d65_0 call n kn kx y0 y1 y2 y3 m = G65_0 call n kn kx y0 y1 y2 y3 m := Eq.mp (by kernel_rfl) (g65_0 call n kn kx y0 y1 y2 y3 m)
  exact h
def G65_1 (call : CL) (n : Nat) (kn : KN) (kx : KX) (Q65_0 : Y4) (y0 y1 y2 y3 : AV) (m : Mem) : Rho :=
  vK (aIndexAddr m 1 y1 y3) m fun a0 m1 =>
  loadK none a0 m1 fun a2 m3 =>
  binK .neq a2 y0 fun a4 =>
  condK a4
  (kx .ret [(2, a2)] m3)
  (Q65_0 y0 y1 y2 y3 m3)
theorem g65_1 (call : CL) (n : Nat) (kn : KN) (kx : KX) (b65_0 : C) (y0 y1 y2 y3 : AV) (m : Mem) : evK call n (c65_1 b65_0) [(3, y0), (6, y1), (7, y2), (8, y3)] m kn kx = G65_1 call n kn kx (fun x0 x1 x2 x3 m => evK call n b65_0 [(3, x0), (6, x1), (7, x2), (8, x3)] m kn kx) y0 y1 y2 y3 m := by kernel_rfl
def k65_1 (call : CL) (n : Nat) (kn : KN) (kx : KX) : KN := kn
def x65_1 (call : CL) (n : Nat) (kn : KN) (kx : KX) : KX := kx
def S65_1 (call : CL) (n : Nat) (kn : KN) (kx : KX) (y0 y1 y2 y3 : AV) (m : Mem) : Rho := G65_1 call n kn kx (S65_0 call n kn kx) y0 y1 y2 y3 m
def d65_1 (call : CL) (n : Nat) (kn : KN) (kx : KX) (y0 y1 y2 y3 : AV) (m : Mem) : Rho := evK call n b65_1 [(3, y0), (6, y1), (7, y2), (8, y3)] m (k65_1 call n kn kx) (x65_1 call n kn kx)
theorem l65_1 {call : CL} {n : Nat} {kn : KN} {kx : KX} : d65_1 call n kn kx = S65_1 call n kn kx := by
  funext y0 y1 y2 y3 m
  have h : d65_1 call n kn kx y0 y1 y2 y3 m = G65_1 call n kn kx (d65_0 call n kn kx) y0 y1 y2 y3 m := Eq.mp (by kernel_rfl) (g65_1 call n kn kx b65_0 y0 y1 y2 y3 m)
  rw [l65_0] at h; exact h
def G65_2 (call : CL) (n : Nat) (kn : KN) (kx : KX) (Q65_1 : Y4) (y0 y1 y2 y3 : AV) (m : Mem) : Rho :=
  binK .lss y3 y2 fun a0 =>
  condK a0
  (Q65_1 y0 y1 y2 y3 m)
  (kx (.ext 0) [(3, y0), (6, y1), (7, y2), (8, y3), (9, a0)] m)
theorem g65_2 (call : CL) (n : Nat) (kn : KN) (kx : KX) (b65_1 : C) (y0 y1 y2 y3 : AV) (m : Mem) : evK call n (c65_2 b65_1) [(3, y0), (6, y1), (7, y2), (8, y3)] m kn kx = G65_2 call n kn kx (fun x0 x1 x2 x3 m => evK call n b65_1 [(3, x0), (6, x1), (7, x2), (8, x3)] m kn kx) y0 y1 y2 y3 m := by kernel_rfl
def S65_2 (call : CL) (n : Nat) (kn : KN) (kx : KX) (y0 y1 y2 y3 : AV) (m : Mem) : Rho := G65_2 call n kn kx (S65_1 call n kn kx) y0 y1 y2 y3 m
def d65_2 (call : CL) (n : Nat) (kn : KN) (kx : KX) (y0 y1 y2 y3 : AV) (m : Mem) : Rho := evK call n b65_2 [(3, y0), (6, y1), (7, y2), (8, y3)] m kn kx
theorem l65_2 {call : CL} {n : Nat} : d65_2 call n = S65_2 call n := by
  funext kn kx y0 y1 y2 y3 m
  have h : d65_2 call n kn kx y0 y1 y2 y3 m = G65_2 call n kn kx (d65_1 call n kn kx) y0 y1 y2 y3 m := Eq.mp (by kernel_rfl) (g65_2 call n kn kx b65_1 y0 y1 y2 y3 m)
  rw [l65_1] at h; exact h
def G65 (call : CL) (n : Nat) (m0 : Mem) (B65_2 : KN → KX → Y4) (Q65_3 : Y1) (y0 : AV) (m : Mem) : Rho :=
  vK (aLen m 1 y0) m fun a0 m1 =>
  loopV [3, 6, 7, 8] none (fun vs m kn kx => unc vs fun x0 vs => unc vs fun x1 vs => unc vs fun x2 vs => unc vs fun x3 vs => unz vs (B65_2 kn kx x0 x1 x2 x3 m)) (blkK 0 (fun e m => keepK e [3] fun vs => unc vs fun x0 vs => unz vs (Q65_3 x0 m)) (endK f65 m0)) n [(.int .i64 0), y0, a0, (.int .i64 0)] m1
theorem g65 (call : CL) (n : Nat) (m0 : Mem) (b65_2 : C) (b65_3 : C) (y0 : AV) (m : Mem) : evK call n (c65 b65_2 b65_3) [(0, y0)] m (fun e m => endK f65 m0 .nrm e m) (endK f65 m0) = G65 call n m0 (fun kn kx x0 x1 x2 x3 m => evK call n b65_2 [(3, x0), (6, x1), (7, x2), (8, x3)] m kn kx) (fun x0 m => evK call n b65_3 [(3, x0)] m (fun e m => endK f65 m0 .nrm e m) (endK f65 m0)) y0 m := by kernel_rfl
def S65 (call : CL) (n : Nat) (m0 : Mem) (y0 : AV) : Rho := G65 call n m0 (S65_2 call n) (S65_3 call n m0) y0 { m0 with bad := none }
theorem s65 (call : CL) (n : Nat) (m0 : Mem) (y0 : AV) : bodyK call n f65 [y0] m0 = S65 call n m0 y0 :=
  have h : bodyK call n f65 [y0] m0 = G65 call n m0 (d65_2 call n) (d65_3 call n m0) y0 { m0 with bad := none } := Eq.mp (by kernel_rfl) (g65 call n m0 b65_2 b65_3 y0 { m0 with bad := none })
  by rw [l65_2, l65_3] at h; exact h
def F65 : SF := fun call n vs m0 => unc vs fun x0 vs => unz vs (S65 call n m0 x0)
theorem F65_ok {orc : List AV → Mem → Option (AV × Mem)} : SOk 65 { f65 with orc := orc } F65 := by
  intro call n vs m0 ho r h0
  simp only [F65] at h0
  obtain ⟨y0, v0, rfl, h1⟩ := unc_some h0
  obtain ⟨rfl, hz⟩ := unz_some h1
  exact bodyK_le ho rfl r (Eq.mp (by kernel_rfl) ((s65 call n m0 y0).trans hz))

-- cmp.Compare[int]
def G66_1 (call : CL) (n : Nat) (m0 : Mem) (m : Mem) : Rho :=
  retK false false m0 [(.int .i64 0)] m
theorem g66_1 (call : CL) (n : Nat) (m0 : Mem) (m : Mem) : evK call n b66_1 [] m (fun e m => endK f66 m0 .nrm e m) (endK f66 m0) = G66_1 call n m0 m := by kernel_rfl
def k66_1 (call : CL) (n : Nat) (m0 : Mem) : KN := (fun e m => endK f66 m0 .nrm e m)
def x66_1 (call : CL) (n : Nat) (m0 : Mem) : KX := (endK f66 m0)
def S66_1 (call : CL) (n : Nat) (m0 : Mem) (m : Mem) : Rho := G66_1 call n m0 m
def d66_1 (call : CL) (n : Nat) (m0 : Mem) (m : Mem) : Rho := evK call n b66_1 [] m (k66_1 call n m0) (x66_1 call n m0)
theorem l66_1 {call : CL} {n : Nat} {m0 : Mem} : d66_1 call n m0 = S66_1 call n m0 := by
  funext m
  have h : d66_1 call n m0 m = G66_1 call n m0 m := Eq.mp (by kernel_rfl) (g66_1 call n m0 m)
  exact h
def G66_2 (call : CL) (n : Nat) (m0 : Mem) (Q66_1 : Y0) (y0 y1 : AV) (m : Mem) : Rho :=
  binK .gtr y0 y1 fun a0 =>
  condK a0
  (retK false false m0 [(.int .i64 1)] m)
  (Q66_1 m)
theorem g66_2 (call : CL) (n : Nat) (m0 : Mem) (b66_1 : C) (y0 y1 : AV) (m : Mem) : evK call n (c66_2 b66_1) [(0, y0), (1, y1)] m (fun e m => endK f66 m0 .nrm e m) (endK f66 m0) = G66_2 call n m0 (fun m => evK call n b66_1 [] m (fun e m => endK f66 m0 .nrm e m) (endK f66 m0)) y0 y1 m := by kernel_rfl
def k66_2 (call : CL) (n : Nat) (m0 : Mem) : KN := (fun e m => endK f66 m0 .nrm e m)
def x66_2 (call : CL) (n : Nat) (m0 : Mem) : KX := (endK f66 m0)
def S66_2 (call : CL) (n : Nat) (m0 : Mem) (y0 y1 : AV) (m : Mem) : Rho := G66_2 call n m0 (S66_1 call n m0) y0 y1 m
def d66_2 (call : CL) (n : Nat) (m0 : Mem) (y0 y1 : AV) (m : Mem) : Rho := evK call n b66_2 [(0, y0), (1, y1)] m (k66_2 call n m0) (x66_2 call n m0)
theorem l66_2 {call : CL} {n : Nat} {m0 : Mem} : d66_2 call n m0 = S66_2 call n m0 := by
  funext y0 y1 m
  have h : d66_2 call n m0 y0 y1 m = G66_2 call n m0 (d66_1 call n m0) y0 y1 m := Eq.mp (by kernel_rfl) (g66_2 call n m0 b66_1 y0 y1 m)
  rw [l66_1] at h; exact h
def G66_3 (call : CL) (n : Nat) (m0 : Mem) (Q66_2 : Y2) (y0 y1 : AV) (m : Mem) : Rho :=
  binK .lss y0 y1 fun a0 =>
  condK a0
  (retK false false m0 [(.int .i64 (-1))] m)
  (Q66_2 y0 y1 m)
theorem g66_3 (call : CL) (n : Nat) (m0 : Mem) (b66_2 : C) (y0 y1 : AV) (m : Mem) : evK call n (c66_3 b66_2) [(0, y0), (1, y1)] m (fun e m => endK f66 m0 .nrm e m) (endK f66 m0) = G66_3 call n m0 (fun x0 x1 m => evK call n b66_2 [(0, x0), (1, x1)] m (fun e m => endK f66 m0 .nrm e m) (endK f66 m0)) y0 y1 m := by kernel_rfl
def k66_3 (call : CL) (n : Nat) (m0 : Mem) : KN := (fun e m => endK f66 m0 .nrm e m)
def x66_3 (call : CL) (n : Nat) (m0 : Mem) : KX := (endK f66 m0)
def S66_3 (call : CL) (n : Nat) (m0 : Mem) (y0 y1 : AV) (m : Mem) : Rho := G66_3 call n m0 (S66_2 call n m0) y0 y1 m
def d66_3 (call : CL) (n : Nat) (m0 : Mem) (y0 y1 : AV) (m : Mem) : Rho := evK call n b66_3 [(0, y0), (1, y1)] m (k66_3 call n m0) (x66_3 call n m0)
theorem l66_3 {call : CL} {n : Nat} {m0 : Mem} : d66_3 call n m0 = S66_3 call n m0 := by
  funext y0 y1 m
  have h : d66_3 call n m0 y0 y1 m = G66_3 call n m0 (d66_2 call n m0) y0 y1 m := Eq.mp (by kernel_rfl) (g66_3 call n m0 b66_2 y0 y1 m)
  rw [l66_2] at h; exact h
def G66_4 (call : CL) (n : Nat) (m0 : Mem) (Q66_3 : Y2) (y0 y1 y2 : AV) (m : Mem) : Rho :=
  condK y2
  (retK false false m0 [(.int .i64 1)] m)
  (Q66_3 y0 y1 m)
theorem g66_4 (call : CL) (n : Nat) (m0 : Mem) (b66_3 : C) (y0 y1 y2 : AV) (m : Mem) : evK call n (c66_4 b66_3) [(0, y0), (1, y1), (6, y2)] m (fun e m => endK f66 m0 .nrm e m) (endK f66 m0) = G66_4 call n m0 (fun x0 x1 m => evK call n b66_3 [(0, x0), (1, x1)] m (fun e m => endK f66 m0 .nrm e m) (endK f66 m0)) y0 y1 y2 m := by kernel_rfl
def k66_4 (call : CL) (n : Nat) (m0 : Mem) : KN := (fun e m => endK f66 m0 .nrm e m)
def x66_4 (call : CL) (n : Nat) (m0 : Mem) : KX := (endK f66 m0)
def S66_4 (call : CL) (n : Nat) (m0 : Mem) (y0 y1 y2 : AV) (m : Mem) : Rho := G66_4 call n m0 (S66_3 call n m0) y0 y1 y2 m
def d66_4 (call : CL) (n : Nat) (m0 : Mem) (y0 y1 y2 : AV) (m : Mem) : Rho := evK call n b66_4 [(0, y0), (1, y1), (6, y2)] m (k66_4 call n m0) (x66_4 call n m0)
theorem l66_4 {call : CL} {n : Nat} {m0 : Mem} : d66_4 call n m0 = S66_4 call n m0 := by
  funext y0 y1 y2 m
  have h : d66_4 call n m0 y0 y1 y2 m = G66_4 call n m0 (d66_3 call n m0) y0 y1 y2 m := Eq.mp (by kernel_rfl) (g66_4 call n m0 b66_3 y0 y1 y2 m)
  rw [l66_3] at h; exact h
def G66_0 (call : CL) (n : Nat) (m0 : Mem) (m : Mem) : Rho :=
  retK false false m0 [(.int .i64 (-1))] m
theorem g66_0 (call : CL) (n : Nat) (m0 : Mem) (b66_4 : C) (k66_4 : KN) (x66_4 : KX) (m : Mem) : evK call n b66_0 [] m (jn call n [0, 1, 6] b66_4 k66_4 x66_4) (endK f66 m0) = G66_0 call n m0 m := by kernel_rfl
def k66_0 (call : CL) (n : Nat) (m0 : Mem) : KN := (jn call n [0, 1, 6] b66_4 (k66_4 call n m0) (x66_4 call n m0))
def x66_0 (call : CL) (n : Nat) (m0 : Mem) : KX := (endK f66 m0)
def S66_0 (call : CL) (n : Nat) (m0 : Mem) (m : Mem) : Rho := G66_0 call n m0 m
def d66_0 (call : CL) (n : Nat) (m0 : Mem) (m : Mem) : Rho := evK call n b66_0 [] m (k66_0 call n m0) (x66_0 call n m0)
theorem l66_0 {call : CL} {n : Nat} {m0 : Mem} : d66_0 call n m0 = S66_0 call n m0 := by
  funext m
  have h : d66_0 call n m0 m = G66_0 call n m0 m := Eq.mp (by kernel_rfl) (g66_0 call n m0 b66_4 (k66_4 call n m0) (x66_4 call n m0) m)
  exact h
def G66 (call : CL) (n : Nat) (m0 : Mem) (Q66_0 : Y0) (Q66_4 : Y3) (y0 y1 : AV) (m : Mem) : Rho :=
  callK call (.func 88 [] []) false [y0] m fun a0 m1 =>
  callK call (.func 88 [] []) false [y1] m1 fun a2 m3 =>
  condK a0
  (condK a2
  (retK false false m0 [(.int .i64 0)] m3)
  (Q66_0 m3))
  (Q66_4 y0 y1 a2 m3)
theorem g66 (call : CL) (n : Nat) (m0 : Mem) (b66_0 : C) (b66_4 : C) (y0 y1 : AV) (m : Mem) : evK call n (c66 b66_0 b66_4) [(0, y0), (1, y1)] m (fun e m => endK f66 m0 .nrm e m) (endK f66 m0) = G66 call n m0 (fun m => evK call n b66_0 [] m (jn call n [0, 1, 6] b66_4 (fun e m => endK f66 m0 .nrm e m) (endK f66 m0)) (endK f66 m0)) (fun x0 x1 x2 m => evK call n b66_4 [(0, x0), (1, x1), (6, x2)] m (fun e m => endK f66 m0 .nrm e m) (endK f66 m0)) y0 y1 m := by kernel_rfl
def S66 (call : CL) (n : Nat) (m0 : Mem) (y0 y1 : AV) : Rho := G66 call n m0 (S66_0 call n m0) (S66_4 call n m0) y0 y1 { m0 with bad := none }
theorem s66 (call : CL) (n : Nat) (m0 : Mem) (y0 y1 : AV) : bodyK call n f66 [y0, y1] m0 = S66 call n m0 y0 y1 :=
  have h : bodyK call n f66 [y0, y1] m0 = G66 call n m0 (d66_0 call n m0) (d66_4 call n m0) y0 y1 { m0 with bad := none } := Eq.mp (by kernel_rfl) (g66 call n m0 b66_0 b66_4 y0 y1 { m0 with bad := none })
  by rw [l66_0, l66_4] at h; exact h
def F66 : SF := fun call n vs m0 => unc vs fun x0 vs => unc vs fun x1 vs => unz vs (S66 call n m0 x0 x1)
theorem F66_ok {orc : List AV → Mem → Option (AV × Mem)} : SOk 66 { f66 with orc := orc } F66 := by
  intro call n vs m0 ho r h0
  simp only [F66] at h0
  obtain ⟨y0, v0, rfl, h1⟩ := unc_some h0
  obtain ⟨y1, v1, rfl, h2⟩ := unc_some h1
  obtain ⟨rfl, hz⟩ := unz_some h2
  exact bodyK_le ho rfl r (Eq.mp (by kernel_rfl) ((s66 call n m0 y0 y1).trans hz))

-- slices.Compact[[][2]int,[2]int]
def G67_9 (call : CL) (n : Nat) (m0 : Mem) (y0 : AV) (m : Mem) : Rho :=
  retK false false m0 [y0] m
theorem g67_9 (call : CL) (n : Nat) (m0 : Mem) (y0 : AV) (m : Mem) : evK call n b67_9 [(0, y0)] m (fun e m => endK f67 m0 .nrm e m) (endK f67 m0) = G67_9 call n m0 y0 m := by kernel_rfl
def k67_9 (call : CL) (n : Nat) (m0 : Mem) : KN := (fun e m => endK f67 m0 .nrm e m)
def x67_9 (call : CL) (n : Nat) (m0 : Mem) : KX := (endK f67 m0)
def S67_9 (call : CL) (n : Nat) (m0 : Mem) (y0 : AV) (m : Mem) : Rho := G67_9 call n m0 y0 m
def d67_9 (call : CL) (n : Nat) (m0 : Mem) (y0 : AV) (m : Mem) : Rho := evK call n b67_9 [(0, y0)] m (k67_9 call n m0) (x67_9 call n m0)
theorem l67_9 {call : CL} {n : Nat} {m0 : Mem} : d67_9 call n m0 = S67_9 call n m0 := by
  funext y0 m
  have h : d67_9 call n m0 y0 m = G67_9 call n m0 y0 m := Eq.mp (by kernel_rfl) (g67_9 call n m0 y0 m)
  exact h
def G67_6 (call : CL) (n : Nat) (kn : KN) (kx : KX) (y0 y1 : AV) (m : Mem) : Rho :=
  binK .add y1 (.int .i64 1) fun a0 =>
  kn [(0, y0), (3, a0)] m
theorem g67_6 (call : CL) (n : Nat) (kn : KN) (kx : KX) (y0 y1 : AV) (m : Mem) : evK call n b67_6 [(0, y0), (3, y1)] m kn kx = G67_6 call n kn kx y0 y1 m := by kernel_rfl
def k67_6 (call : CL) (n : Nat) (kn : KN) (kx : KX) : KN := kn
def x67_6 (call : CL) (n : Nat) (kn : KN) (kx : KX) : KX := kx
def S67_6 (call : CL) (n : Nat) (kn : KN) (kx : KX) (y0 y1 : AV) (m : Mem) : Rho := G67_6 call n kn kx y0 y1 m
def d67_6 (call : CL) (n : Nat) (kn : KN) (kx : KX) (y0 y1 : AV) (m : Mem) : Rho := evK call n b67_6 [(0, y0), (3, y1)] m (k67_6 call n kn kx) (x67_6 call n kn kx)
theorem l67_6 {call : CL} {n : Nat} {kn : KN} {kx : KX} : d67_6 call n kn kx = S67_6 call n kn kx := by
  funext y0 y1 m
  have h : d67_6 call n kn kx y0 y1 m = G67_6 call n kn kx y0 y1 m := Eq.mp (by kernel_rfl) (g67_6 call n kn kx y0 y1 m)
  exact h
def G67_5 (call : CL) (n : Nat) (kn : KN) (kx : KX) (y0 y1 : AV) (m : Mem) : Rho :=
  vK (aSlice 2 y0 (some y1) none) m fun a0 m1 =>
  clearK 2 [(.int .i64 0), (.int .i64 0)] a0 m1 fun a2 m3 =>
  vK (aSlice 2 y0 none (some y1)) m3 fun a4 m5 =>
  kx .ret [(2, a4)] m5
theorem g67_5 (call : CL) (n : Nat) (kn : KN) (kx : KX) (b67_6 : C) (k67_6 : KN) (x67_6 : KX) (y0 y1 : AV) (m : Mem) : evK call n b67_5 [(0, y0), (3, y1)] m (jn call n [0, 3] b67_6 k67_6 x67_6) (blkK 1 (jn call n [0, 3] b67_6 k67_6 x67_6) kx) = G67_5 call n kn kx y0 y1 m := by kernel_rfl
def k67_5 (call : CL) (n : Nat) (kn : KN) (kx : KX) : KN := (jn call n [0, 3] b67_6 (k67_6 call n kn kx) (x67_6 call n kn kx))
def x67_5 (call : CL) (n : Nat) (kn : KN) (kx : KX) : KX := (blkK 1 (jn call n [0, 3] b67_6 (k67_6 call n kn kx) (x67_6 call n kn kx)) kx)
def S67_5 (call : CL) (n : Nat) (kn : KN) (kx : KX) (y0 y1 : AV) (m : Mem) : Rho := G67_5 call n kn kx y0 y1 m
def d67_5 (call : CL) (n : Nat) (kn : KN) (kx : KX) (y0 y1 : AV) (m : Mem) : Rho := evK call n b67_5 [(0, y0), (3, y1)] m (k67_5 call n kn kx) (x67_5 call n kn kx)
theorem l67_5 {call : CL} {n : Nat} {kn : KN} {kx : KX} : d67_5 call n kn kx = S67_5 call n kn kx := by
  funext y0 y1 m
  have h : d67_5 call n kn kx y0 y1 m = G67_5 call n kn kx y0 y1 m := Eq.mp (by kernel_rfl) (g67_5 call n kn kx b67_6 (k67_6 call n kn kx) (x67_6 call n kn kx) y0 y1 m)
  exact h
def G67_2 (call : CL) (n : Nat) (kn : KN) (kx : KX) (y0 y1 y2 y3 : AV) (m : Mem) : Rho :=
  binK .add y3 (.int .i64 1) fun a0 =>
  kn [(0, y0), (3, y1), (4, y2), (5, a0)] m
theorem g67_2 (call : CL) (n : Nat) (kn : KN) (kx : KX) (y0 y1 y2 y3 : AV) (m : Mem) : evK call n b67_2 [(0, y0), (3, y1), (4, y2), (5, y3)] m kn kx = G67_2 call n kn kx y0 y1 y2 y3 m := by kernel_rfl
def k67_2 (call : CL) (n : Nat) (kn : KN) (kx : KX) : KN := kn
def x67_2 (call : CL) (n : Nat) (kn : KN) (kx : KX) : KX := kx
def S67_2 (call : CL) (n : Nat) (kn : KN) (kx : KX) (y0 y1 y2 y3 : AV) (m : Mem) : Rho := G67_2 call n kn kx y0 y1 y2 y3 m
def d67_2 (call : CL) (n : Nat) (kn : KN) (kx : KX) (y0 y1 y2 y3 : AV) (m : Mem) : Rho := evK call n b67_2 [(0, y0), (3, y1), (4, y2), (5, y3)] m (k67_2 call n kn kx) (x67_2 call n kn kx)
theorem l67_2 {call : CL} {n : Nat} {kn : KN} {kx : KX} : d67_2 call n kn kx = S67_2 call n kn kx := by
  funext y0 y1 y2 y3 m
  have h : d67_2 call n kn kx y0 y1 y2 y3 m = G67_2 call n kn kx y0 y1 y2 y3 m := Eq.mp (by kernel_rfl) (g67_2 call n kn kx y0 y1 y2 y3 m)
  exact h
def G67_3 (call : CL) (n : Nat) (kn : KN) (kx : KX) (Q67_2 : Y4) (y0 y1 y2 y3 : AV) (m : Mem) : Rho :=
  vK (aIndexAddr m 2 y2 y3) m fun a0 m1 =>
  loadK (some 2) a0 m1 fun a2 m3 =>
  binK .sub y3 (.int .i64 1) fun a4 =>
  vK (aIndexAddr m3 2 y2 a4) m3 fun a5 m6 =>
  loadK (some 2) a5 m6 fun a7 m8 =>
  eqvK ⟨[.i, .i], true⟩ true a2 a7 fun a9 =>
  condK a9
  (vK (aIndexAddr m8 2 y2 y3) m8 fun a10 m11 =>
  loadK (some 2) a10 m11 fun a12 m13 =>
  vK (aIndexAddr m13 2 y0 y1) m13 fun a14 m15 =>
  storeK 2 a14 a12 m15 fun a16 m17 =>
  binK .add y1 (.int .i64 1) fun a18 =>
  Q67_2 y0 a18 y2 y3 m17)
  (Q67_2 y0 y1 y2 y3 m8)
theorem g67_3 (call : CL) (n : Nat) (kn : KN) (kx : KX) (b67_2 : C) (y0 y1 y2 y3 : AV) (m : Mem) : evK call n (c67_3 b67_2) [(0, y0), (3, y1), (4, y2), (5, y3)] m kn kx = G67_3 call n kn kx (fun x0 x1 x2 x3 m => evK call n b67_2 [(0, x0), (3, x1), (4, x2), (5, x3)] m kn kx) y0 y1 y2 y3 m := by kernel_rfl
def k67_3 (call : CL) (n : Nat) (kn : KN) (kx : KX) : KN := kn
def x67_3 (call : CL) (n : Nat) (kn : KN) (kx : KX) : KX := kx
def S67_3 (call : CL) (n : Nat) (kn : KN) (kx : KX) (y0 y1 y2 y3 : AV) (m : Mem) : Rho := G67_3 call n kn kx (S67_2 call n kn kx) y0 y1 y2 y3 m
def d67_3 (call : CL) (n : Nat) (kn : KN) (kx : KX) (y0 y1 y2 y3 : AV) (m : Mem) : Rho := evK call n b67_3 [(0, y0), (3, y1), (4, y2), (5, y3)] m (k67_3 call n kn kx) (x67_3 call n kn kx)
theorem l67_3 {call : CL} {n : Nat} {kn : KN} {kx : KX} : d67_3 call n kn kx = S67_3 call n kn kx := by
  funext y0 y1 y2 y3 m
  have h : d67_3 call n kn kx y0 y1 y2 y3 m = G67_3 call n kn kx (d67_2 call n kn kx) y0 y1 y2 y3 m := Eq.mp (by kernel_rfl) (g67_3 call n kn kx b67_2 y0 y1 y2 y3 m)
  rw [l67_2] at h; exact h
def G67_4 (call : CL) (n : Nat) (kn : KN) (kx : KX) (Q67_3 : Y4) (y0 y1 y2 y3 : AV) (m : Mem) : Rho :=
  vK (aLen m 1 y2) m fun a0 m1 =>
  binK .lss y3 a0 fun a2 =>
  condK a2
  (Q67_3 y0 y1 y2 y3 m1)
  (kx (.ext 2) [(0, y0), (3, y1), (4, y2), (5, y3), (32, a2)] m1)
theorem g67_4 (call : CL) (n : Nat) (kn : KN) (kx : KX) (b67_3 : C) (y0 y1 y2 y3 : AV) (m : Mem) : evK call n (c67_4 b67_3) [(0, y0), (3, y1), (4, y2), (5, y3)] m kn kx = G67_4 call n kn kx (fun x0 x1 x2 x3 m => evK call n b67_3 [(0, x0), (3, x1), (4, x2), (5, x3)] m kn kx) y0 y1 y2 y3 m := by kernel_rfl
def S67_4 (call : CL) (n : Nat) (kn : KN) (kx : KX) (y0 y1 y2 y3 : AV) (m : Mem) : Rho := G67_4 call n kn kx (S67_3 call n kn kx) y0 y1 y2 y3 m
def d67_4 (call : CL) (n : Nat) (kn : KN) (kx : KX) (y0 y1 y2 y3 : AV) (m : Mem) : Rho := evK call n b67_4 [(0, y0), (3, y1), (4, y2), (5, y3)] m kn kx
theorem l67_4 {call : CL} {n : Nat} : d67_4 call n = S67_4 call n := by
  funext kn kx y0 y1 y2 y3 m
  have h : d67_4 call n kn kx y0 y1 y2 y3 m = G67_4 call n kn kx (d67_3 call n kn kx) y0 y1 y2 y3 m := Eq.mp (by kernel_rfl) (g67_4 call n kn kx b67_3 y0 y1 y2 y3 m)
  rw [l67_3] at h; exact h
def G67_7 (call : CL) (n : Nat) (kn : KN) (kx : KX) (B67_4 : KN → KX → Y4) (Q67_5 : Y2) (Q67_6 : Y2) (y0 y1 : AV) (m : Mem) : Rho :=
  vK (aIndexAddr m 2 y0 y1) m fun a0 m1 =>
  loadK (some 2) a0 m1 fun a2 m3 =>
  binK .sub y1 (.int .i64 1) fun a4 =>
  vK (aIndexAddr m3 2 y0 a4) m3 fun a5 m6 =>
  loadK (some 2) a5 m6 fun a7 m8 =>
  eqvK ⟨[.i, .i], true⟩ false a2 a7 fun a9 =>
  condK a9
  (vK (aSlice 2 y0 (some y1) none) m8 fun a10 m11 =>
  loopV [0, 3, 4, 5] none (fun vs m kn kx => unc vs fun x0 vs => unc vs fun x1 vs => unc vs fun x2 vs => unc vs fun x3 vs => unz vs (B67_4 kn kx x0 x1 x2 x3 m)) (blkK 2 (fun e m => keepK e [0, 3] fun vs => unc vs fun x0 vs => unc vs fun x1 vs => unz vs (Q67_5 x0 x1 m)) (blkK 1 (fun e m => keepK e [0, 3] fun vs => unc vs fun x0 vs => unc vs fun x1 vs => unz vs (Q67_6 x0 x1 m)) kx)) n [y0, y1, a10, (.int .i64 1)] m11)
  (Q67_6 y0 y1 m8)
theorem g67_7 (call : CL) (n : Nat) (kn : KN) (kx : KX) (b67_4 : C) (b67_5 : C) (b67_6 : C) (y0 y1 : AV) (m : Mem) : evK call n (c67_7 b67_4 b67_5 b67_6) [(0, y0), (3, y1)] m kn kx = G67_7 call n kn kx (fun kn kx x0 x1 x2 x3 m => evK call n b67_4 [(0, x0), (3, x1), (4, x2), (5, x3)] m kn kx) (fun x0 x1 m => evK call n b67_5 [(0, x0), (3, x1)] m (jn call n [0, 3] b67_6 kn kx) (blkK 1 (jn call n [0, 3] b67_6 kn kx) kx)) (fun x0 x1 m => evK call n b67_6 [(0, x0), (3, x1)] m kn kx) y0 y1 m := by kernel_rfl
def k67_7 (call : CL) (n : Nat) (kn : KN) (kx : KX) : KN := kn
def x67_7 (call : CL) (n : Nat) (kn : KN) (kx : KX) : KX := kx
def S67_7 (call : CL) (n : Nat) (kn : KN) (kx : KX) (y0 y1 : AV) (m : Mem) : Rho := G67_7 call n kn kx (S67_4 call n) (S67_5 call n kn kx) (S67_6 call n kn kx) y0 y1 m
def d67_7 (call : CL) (n : Nat) (kn : KN) (kx : KX) (y0 y1 : AV) (m : Mem) : Rho := evK call n b67_7 [(0, y0), (3, y1)] m (k67_7 call n kn kx) (x67_7 call n kn kx)
theorem l67_7 {call : CL} {n : Nat} {kn : KN} {kx : KX} : d67_7 call n kn kx = S67_7 call n kn kx := by
  funext y0 y1 m
  have h : d67_7 call n kn kx y0 y1 m = G67_7 call n kn kx (d67_4 call n) (d67_5 call n kn kx) (d67_6 call n kn kx) y0 y1 m := Eq.mp (by kernel_rfl) (g67_7 call n kn kx b67_4 b67_5 b67_6 y0 y1 m)
  rw [l67_4, l67_5, l67_6] at h; exact h
def G67_8 (call : CL) (n : Nat) (kn : KN) (kx : KX) (Q67_7 : Y2) (y0 y1 : AV) (m : Mem) : Rho :=
  vK (aLen m 1 y0) m fun a0 m1 =>
  binK .lss y1 a0 fun a2 =>
  condK a2
  (Q67_7 y0 y1 m1)
  (kx (.ext 0) [(0, y0), (3, y1), (13, a2)] m1)
theorem g67_8 (call : CL) (n : Nat) (kn : KN) (kx : KX) (b67_7 : C) (y0 y1 : AV) (m : Mem) : evK call n (c67_8 b67_7) [(0, y0), (3, y1)] m kn kx = G67_8 call n kn kx (fun x0 x1 m => evK call n b67_7 [(0, x0), (3, x1)] m kn kx) y0 y1 m := by kernel_rfl
def S67_8 (call : CL) (n : Nat) (kn : KN) (kx : KX) (y0 y1 : AV) (m : Mem) : Rho := G67_8 call n kn kx (S67_7 call n kn kx) y0 y1 m
def d67_8 (call : CL) (n : Nat) (kn : KN) (kx : KX) (y0 y1 : AV) (m : Mem) : Rho := evK call n b67_8 [(0, y0), (3, y1)] m kn kx
theorem l67_8 {call : CL} {n : Nat} : d67_8 call n = S67_8 call n := by
  funext kn kx y0 y1 m
  have h : d67_8 call n kn kx y0 y1 m = G67_8 call n kn kx (d67_7 call n kn kx) y0 y1 m := Eq.mp (by kernel_rfl) (g67_8 call n kn kx b67_7 y0 y1 m)
  rw [l67_7] at h; exact h
def G67_10 (call : CL) (n : Nat) (m0 : Mem) (B67_8 : KN → KX → Y2) (Q67_9 : Y1) (y0 : AV) (m : Mem) : Rho :=
  loopV [0, 3] none (fun vs m kn kx => unc vs fun x0 vs => unc vs fun x1 vs => unz vs (B67_8 kn kx x0 x1 m)) (blkK 0 (fun e m => keepK e [0] fun vs => unc vs fun x0 vs => unz vs (Q67_9 x0 m)) (endK f67 m0)) n [y0, (.int .i64 1)] m
theorem g67_10 (call : CL) (n : Nat) (m0 : Mem) (b67_8 : C) (b67_9 : C) (y0 : AV) (m : Mem) : evK call n (c67_10 b67_8 b67_9) [(0, y0)] m (fun e m => endK f67 m0 .nrm e m) (endK f67 m0) = G67_10 call n m0 (fun kn kx x0 x1 m => evK call n b67_8 [(0, x0), (3, x1)] m kn kx) (fun x0 m => evK call n b67_9 [(0, x0)] m (fun e m => endK f67 m0 .nrm e m) (endK f67 m0)) y0 m := by kernel_rfl
def k67_10 (call : CL) (n : Nat) (m0 : Mem) : KN := (fun e m => endK f67 m0 .nrm e m)
def x67_10 (call : CL) (n : Nat) (m0 : Mem) : KX := (endK f67 m0)
def S67_10 (call : CL) (n : Nat) (m0 : Mem) (y0 : AV) (m : Mem) : Rho := G67_10 call n m0 (S67_8 call n) (S67_9 call n m0) y0 m
def d67_10 (call : CL) (n : Nat) (m0 : Mem) (y0 : AV) (m : Mem) : Rho := evK call n b67_10 [(0, y0)] m (k67_10 call n m0) (x67_10 call n m0)
theorem l67_10 {call : CL} {n : Nat} {m0 : Mem} : d67_10 call n m0 = S67_10 call n m0 := by
  funext y0 m
  have h : d67_10 call n m0 y0 m = G67_10 call n m0 (d67_8 call n) (d67_9 call n m0) y0 m := Eq.mp (by kernel_rfl) (g67_10 call n m0 b67_8 b67_9 y0 m)
  rw [l67_8, l67_9] at h; exact h
def G67 (call : CL) (n : Nat) (m0 : Mem) (Q67_10 : Y1) (y0 : AV) (m : Mem) : Rho :=
  vK (aLen m 1 y0) m fun a0 m1 =>
  binK .lss a0 (.int .i64 2) fun a2 =>
  condK a2
  (retK false false m0 [y0] m1)
  (Q67_10 y0 m1)
theorem g67 (call : CL) (n : Nat) (m0 : Mem) (b67_10 : C) (y0 : AV) (m : Mem) : evK call n (c67 b67_10) [(0, y0)] m (fun e m => endK f67 m0 .nrm e m) (endK f67 m0) = G67 call n m0 (fun x0 m => evK call n b67_10 [(0, x0)] m (fun e m => endK f67 m0 .nrm e m) (endK f67 m0)) y0 m := by kernel_rfl
def S67 (call : CL) (n : Nat) (m0 : Mem) (y0 : AV) : Rho := G67 call n m0 (S67_10 call n m0) y0 { m0 with bad := none }
theorem s67 (call : CL) (n : Nat) (m0 : Mem) (y0 : AV) : bodyK call n f67 [y0] m0 = S67 call n m0 y0 :=
  have h : bodyK call n f67 [y0] m0 = G67 call n m0 (d67_10 call n m0) y0 { m0 with bad := none } := Eq.mp (by kernel_rfl) (g67 call n m0 b67_10 y0 { m0 with bad := none })
  by rw [l67_10] at h; exact h
def F67 : SF := fun call n vs m0 => unc vs fun x0 vs => unz vs (S67 call n m0 x0)
theorem F67_ok {orc : List AV → Mem → Option (AV × Mem)} : SOk 67 { f67 with orc := orc } F67 := by
  intro call n vs m0 ho r h0
  simp only [F67] at h0
  obtain ⟨y0, v0, rfl, h1⟩ := unc_some h0
  obtain ⟨rfl, hz⟩ := unz_some h1
  exact bodyK_le ho rfl r (Eq.mp (by kernel_rfl) ((s67 call n m0 y0).trans hz))

-- slices.DeleteFunc[[][2]int,[2]int]
def G70_3 (call : CL) (n : Nat) (m0 : Mem) (y0 y1 : AV) (m : Mem) : Rho :=
  vK (aSlice 2 y0 (some y1) none) m fun a0 m1 =>
  clearK 2 [(.int .i64 0), (.int .i64 0)] a0 m1 fun a2 m3 =>
  vK (aSlice 2 y0 none (some y1)) m3 fun a4 m5 =>
  retK false false m0 [a4] m5
theorem g70_3 (call : CL) (n : Nat) (m0 : Mem) (y0 y1 : AV) (m : Mem) : evK call n b70_3 [(0, y0), (5, y1)] m (fun e m => endK f70 m0 .nrm e m) (endK f70 m0) = G70_3 call n m0 y0 y1 m := by kernel_rfl
def k70_3 (call : CL) (n : Nat) (m0 : Mem) : KN := (fun e m => endK f70 m0 .nrm e m)
def x70_3 (call : CL) (n : Nat) (m0 : Mem) : KX := (endK f70 m0)
def S70_3 (call : CL) (n : Nat) (m0 : Mem) (y0 y1 : AV) (m : Mem) : Rho := G70_3 call n m0 y0 y1 m
def d70_3 (call : CL) (n : Nat) (m0 : Mem) (y0 y1 : AV) (m : Mem) : Rho := evK call n b70_3 [(0, y0), (5, y1)] m (k70_3 call n m0) (x70_3 call n m0)
theorem l70_3 {call : CL} {n : Nat} {m0 : Mem} : d70_3 call n m0 = S70_3 call n m0 := by
  funext y0 y1 m
  have h : d70_3 call n m0 y0 y1 m = G70_3 call n m0 y0 y1 m := Eq.mp (by kernel_rfl) (g70_3 call n m0 y0 y1 m)
  exact h
def G70_0 (call : CL) (n : Nat) (kn : KN) (kx : KX) (y0 y1 y2 y3 : AV) (m : Mem) : Rho :=
  binK .add y3 (.int .i64 1) fun a0 =>
  kn [(0, y0), (1, y1), (5, y2), (6, a0)] m
theorem g70_0 (call : CL) (n : Nat) (kn : KN) (kx : KX) (y0 y1 y2 y3 : AV) (m : Mem) : evK call n b70_0 [(0, y0), (1, y1), (5, y2), (6, y3)] m kn kx = G70_0 call n kn kx y0 y1 y2 y3 m := by kernel_rfl
def k70_0 (call : CL) (n : Nat) (kn : KN) (kx : KX) : KN := kn
def x70_0 (call : CL) (n : Nat) (kn : KN) (kx : KX) : KX := kx
def S70_0 (call : CL) (n : Nat) (kn : KN) (kx : KX) (y0 y1 y2 y3 : AV) (m : Mem) : Rho := G70_0 call n kn kx y0 y1 y2 y3 m
def d70_0 (call : CL) (n : Nat) (kn : KN) (kx : KX) (y0 y1 y2 y3 : AV) (m : Mem) : Rho := evK call n b70_0 [(0, y0), (1, y1), (5, y2), (6, y3)] m (k70_0 call n kn kx) (x70_0 call n kn kx)
theorem l70_0 {call : CL} {n : Nat} {kn : KN} {kx : KX} : d70_0 call n kn kx = S70_0 call n kn kx := by
  funext y0 y1 y2 y3 m
  have h : d70_0 call n kn kx y0 y1 y2 y3 m = G70_0 call n kn kx y0 y1 y2 y3 m := Eq.mp (by kernel_rfl) (g70_0 call n kn kx y0 y1 y2 y3 m)
  exact h
def G70_1 (call : CL) (n : Nat) (kn : KN) (kx : KX) (Q70_0 : Y4) (y0 y1 y2 y3 : AV) (m : Mem) : Rho :=
  vK (aIndexAddr m 2 y0 y3) m fun a0 m1 =>
  loadK (some 2) a0 m1 fun a2 m3 =>
  newK [(.int .i64 0), (.int .i64 0)] m3 fun a4 m5 =>
  storeK 2 a4 a2 m5 fun a6 m7 =>
  loadK (some 2) a4 m7 fun a8 m9 =>
  callK call y1 false [a8] m9 fun a10 m11 =>
  unK .not a10 fun a12 =>
  condK a12
  (loadK (some 2) a4 m11 fun a13 m14 =>
  vK (aIndexAddr m14 2 y0 y2) m14 fun a15 m16 =>
  storeK 2 a15 a13 m16 fun a17 m18 =>
  binK .add y2 (.int .i64 1) fun a19 =>
  Q70_0 y0 y1 a19 y3 m18)
  (Q70_0 y0 y1 y2 y3 m11)
theorem g70_1 (call : CL) (n : Nat) (kn : KN) (kx : KX) (b70_0 : C) (y0 y1 y2 y3 : AV) (m : Mem) : evK call n (c70_1 b70_0) [(0, y0), (1, y1), (5, y2), (6, y3)] m kn kx = G70_1 call n kn kx (fun x0 x1 x2 x3 m => evK call n b70_0 [(0, x0), (1, x1), (5, x2), (6, x3)] m kn kx) y0 y1 y2 y3 m := by kernel_rfl
def k70_1 (call : CL) (n : Nat) (kn : KN) (kx : KX) : KN := kn
def x70_1 (call : CL) (n : Nat) (kn : KN) (kx : KX) : KX := kx
def S70_1 (call : CL) (n : Nat) (kn : KN) (kx : KX) (y0 y1 y2 y3 : AV) (m : Mem) : Rho := G70_1 call n kn kx (S70_0 call n kn kx) y0 y1 y2 y3 m
def d70_1 (call : CL) (n : Nat) (kn : KN) (kx : KX) (y0 y1 y2 y3 : AV) (m : Mem) : Rho := evK call n b70_1 [(0, y0), (1, y1), (5, y2), (6, y3)] m (k70_1 call n kn kx) (x70_1 call n kn kx)
theorem l70_1 {call : CL} {n : Nat} {kn : KN} {kx : KX} : d70_1 call n kn kx = S70_1 call n kn kx := by
  funext y0 y1 y2 y3 m
  have h : d70_1 call n kn kx y0 y1 y2 y3 m = G70_1 call n kn kx (d70_0 call n kn kx) y0 y1 y2 y3 m := Eq.mp (by kernel_rfl) (g70_1 call n kn kx b70_0 y0 y1 y2 y3 m)
  rw [l70_0] at h; exact h
def G70_2 (call : CL) (n : Nat) (kn : KN) (kx : KX) (Q70_1 : Y4) (y0 y1 y2 y3 : AV) (m : Mem) : Rho :=
  vK (aLen m 1 y0) m fun a0 m1 =>
  binK .lss y3 a0 fun a2 =>
  condK a2
  (Q70_1 y0 y1 y2 y3 m1)
  (kx (.ext 0) [(0, y0), (1, y1), (5, y2), (6, y3), (19, a2)] m1)
theorem g70_2 (call : CL) (n : Nat) (kn : KN) (kx : KX) (b70_1 : C) (y0 y1 y2 y3 : AV) (m : Mem) : evK call n (c70_2 b70_1) [(0, y0), (1, y1), (5, y2), (6, y3)] m kn kx = G70_2 call n kn kx (fun x0 x1 x2 x3 m => evK call n b70_1 [(0, x0), (1, x1), (5, x2), (6, x3)] m kn kx) y0 y1 y2 y3 m := by kernel_rfl
def S70_2 (call : CL) (n : Nat) (kn : KN) (kx : KX) (y0 y1 y2 y3 : AV) (m : Mem) : Rho := G70_2 call n kn kx (S70_1 call n kn kx) y0 y1 y2 y3 m
def d70_2 (call : CL) (n : Nat) (kn : KN) (kx : KX) (y0 y1 y2 y3 : AV) (m : Mem) : Rho := evK call n b70_2 [(0, y0), (1, y1), (5, y2), (6, y3)] m kn kx
theorem l70_2 {call : CL} {n : Nat} : d70_2 call n = S70_2 call n := by
  funext kn kx y0 y1 y2 y3 m
  have h : d70_2 call n kn kx y0 y1 y2 y3 m = G70_2 call n kn kx (d70_1 call n kn kx) y0 y1 y2 y3 m := Eq.mp (by kernel_rfl) (g70_2 call n kn kx b70_1 y0 y1 y2 y3 m)
  rw [l70_1] at h; exact h
def G70_4 (call : CL) (n : Nat) (m0 : Mem) (B70_2 : KN → KX → Y4) (Q70_3 : Y2) (y0 y1 y2 : AV) (m : Mem) : Rho :=
  binK .add y2 (.int .i64 1) fun a0 =>
  loopV [0, 1, 5, 6] none (fun vs m kn kx => unc vs fun x0 vs => unc vs fun x1 vs => unc vs fun x2 vs => unc vs fun x3 vs => unz vs (B70_2 kn kx x0 x1 x2 x3 m)) (blkK 0 (fun e m => keepK e [0, 5] fun vs => unc vs fun x0 vs => unc vs fun x1 vs => unz vs (Q70_3 x0 x1 m)) (endK f70 m0)) n [y0, y1, y2, a0] m
theorem g70_4 (call : CL) (n : Nat) (m0 : Mem) (b70_2 : C) (b70_3 : C) (y0 y1 y2 : AV) (m : Mem) : evK call n (c70_4 b70_2 b70_3) [(0, y0), (1, y1), (5, y2)] m (fun e m => endK f70 m0 .nrm e m) (endK f70 m0) = G70_4 call n m0 (fun kn kx x0 x1 x2 x3 m => evK call n b70_2 [(0, x0), (1, x1), (5, x2), (6, x3)] m kn kx) (fun x0 x1 m => evK call n b70_3 [(0, x0), (5, x1)] m (fun e m => endK f70 m0 .nrm e m) (endK f70 m0)) y0 y1 y2 m := by kernel_rfl
def k70_4 (call : CL) (n : Nat) (m0 : Mem) : KN := (fun e m => endK f70 m0 .nrm e m)
def x70_4 (call : CL) (n : Nat) (m0 : Mem) : KX := (endK f70 m0)
def S70_4 (call : CL) (n : Nat) (m0 : Mem) (y0 y1 y2 : AV) (m : Mem) : Rho := G70_4 call n m0 (S70_2 call n) (S70_3 call n m0) y0 y1 y2 m
def d70_4 (call : CL) (n : Nat) (m0 : Mem) (y0 y1 y2 : AV) (m : Mem) : Rho := evK call n b70_4 [(0, y0), (1, y1), (5, y2)] m (k70_4 call n m0) (x70_4 call n m0)
theorem l70_4 {call : CL} {n : Nat} {m0 : Mem} : d70_4 call n m0 = S70_4 call n m0 := by
  funext y0 y1 y2 m
  have h : d70_4 call n m0 y0 y1 y2 m = G70_4 call n m0 (d70_2 call n) (d70_3 call n m0) y0 y1 y2 m := Eq.mp (by kernel_rfl) (g70_4 call n m0 b70_2 b70_3 y0 y1 y2 m)
  rw [l70_2, l70_3] at h; exact h
def G70 (call : CL) (n : Nat) (m0 : Mem) (Q70_4 : Y3) (y0 y1 : AV) (m : Mem) : Rho :=
  callK call (.func 90 [] []) false [y0, y1] m fun a0 m1 =>
  binK .eql a0 (.int .i64 (-1)) fun a2 =>
  condK a2
  (retK false false m0 [y0] m1)
  (Q70_4 y0 y1 a0 m1)
theorem g70 (call : CL) (n : Nat) (m0 : Mem) (b70_4 : C) (y0 y1 : AV) (m : Mem) : evK call n (c70 b70_4) [(0, y0), (1, y1)] m (fun e m => endK f70 m0 .nrm e m) (endK f70 m0) = G70 call n m0 (fun x0 x1 x2 m => evK call n b70_4 [(0, x0), (1, x1), (5, x2)] m (fun e m => endK f70 m0 .nrm e m) (endK f70 m0)) y0 y1 m := by kernel_rfl
def S70 (call : CL) (n : Nat) (m0 : Mem) (y0 y1 : AV) : Rho := G70 call n m0 (S70_4 call n m0) y0 y1 { m0 with bad := none }
theorem s70 (call : CL) (n : Nat) (m0 : Mem) (y0 y1 : AV) : bodyK call n f70 [y0, y1] m0 = S70 call n m0 y0 y1 :=
  have h : bodyK call n f70 [y0, y1] m0 = G70 call n m0 (d70_4 call n m0) y0 y1 { m0 with bad := none } := Eq.mp (by kernel_rfl) (g70 call n m0 b70_4 y0 y1 { m0 with bad := none })
  by rw [l70_4] at h; exact h
def F70 : SF := fun call n vs m0 => unc vs fun x0 vs => unc vs fun x1 vs => unz vs (S70 call n m0 x0 x1)
theorem F70_ok {orc : List AV → Mem → Option (AV × Mem)} : SOk 70 { f70 with orc := orc } F70 := by
  intro call n vs m0 ho r h0
  simp only [F70] at h0
  obtain ⟨y0, v0, rfl, h1⟩ := unc_some h0
  obtain ⟨y1, v1, rfl, h2⟩ := unc_some h1
  obtain ⟨rfl, hz⟩ := unz_some h2
  exact bodyK_le ho rfl r (Eq.mp (by kernel_rfl) ((s70 call n m0 y0 y1).trans hz))

-- resolvent/pairs.Without$1
def G71 (call : CL) (n : Nat) (m0 : Mem) (y0 y1 : AV) (m : Mem) : Rho :=
  boxK y0 m fun a0 m1 =>
  loadK none y1 m1 fun a2 m3 =>
  vK (aIndexAddrA 2 1 a0 (.int .i64 0)) m3 fun a4 m5 =>
  loadK none a4 m5 fun a6 m7 =>
  callK call (.func 49 [] []) false [a2, a6] m7 fun a8 m9 =>
  gK a8 false (fun k => loadK none y1 m9 fun a10 m11 =>
  k a10 m11) m9 fun a12 m13 =>
  gK a8 false (fun k => vK (aIndexAddrA 2 1 a0 (.int .i64 1)) m13 fun a14 m15 =>
  k a14 m15) m13 fun a16 m17 =>
  gK a8 false (fun k => loadK none a16 m17 fun a18 m19 =>
  k a18 m19) m17 fun a20 m21 =>
  gK a8 false (fun k => callK call (.func 49 [] []) false [a12, a20] m21 fun a22 m23 =>
  k a22 m23) m21 fun a24 m25 =>
  pickK a8 (some (.bool true)) (some a24) fun a26 =>
  retK false false m0 [a26] m25
theorem g71 (call : CL) (n : Nat) (m0 : Mem) (y0 y1 : AV) (m : Mem) : evK call n b71 [(0, y0), (1, y1)] m (fun e m => endK f71 m0 .nrm e m) (endK f71 m0) = G71 call n m0 y0 y1 m := by kernel_rfl
def S71 (call : CL) (n : Nat) (m0 : Mem) (y0 y1 : AV) : Rho := G71 call n m0 y0 y1 { m0 with bad := none }
theorem s71 (call : CL) (n : Nat) (m0 : Mem) (y0 y1 : AV) : bodyK call n f71 [y0, y1] m0 = S71 call n m0 y0 y1 :=
  have h : bodyK call n f71 [y0, y1] m0 = G71 call n m0 y0 y1 { m0 with bad := none } := Eq.mp (by kernel_rfl) (g71 call n m0 y0 y1 { m0 with bad := none })
  h
def F71 : SF := fun call n vs m0 => unc vs fun x0 vs => unc vs fun x1 vs => unz vs (S71 call n m0 x0 x1)
theorem F71_ok {orc : List AV → Mem → Option (AV × Mem)} : SOk 71 { f71 with orc := orc } F71 := by
  intro call n vs m0 ho r h0
  simp only [F71] at h0
  obtain ⟨y0, v0, rfl, h1⟩ := unc_some h0
  obtain ⟨y1, v1, rfl, h2⟩ := unc_some h1
  obtain ⟨rfl, hz⟩ := unz_some h2
  exact bodyK_le ho rfl r (Eq.mp (by kernel_rfl) ((s71 call n m0 y0 y1).trans hz))

-- slices.DeleteFunc[[]int,int]
def G73_3 (call : CL) (n : Nat) (m0 : Mem) (y0 y1 : AV) (m : Mem) : Rho :=
  vK (aSlice 1 y0 (some y1) none) m fun a0 m1 =>
  clearK 1 [(.int .i64 0)] a0 m1 fun a2 m3 =>
  vK (aSlice 1 y0 none (some y1)) m3 fun a4 m5 =>
  retK false false m0 [a4] m5
theorem g73_3 (call : CL) (n : Nat) (m0 : Mem) (y0 y1 : AV) (m : Mem) : evK call n b73_3 [(0, y0), (5, y1)] m (fun e m => endK f73 m0 .nrm e m) (endK f73 m0) = G73_3 call n m0 y0 y1 m := by kernel_rfl
def k73_3 (call : CL) (n : Nat) (m0 : Mem) : KN := (fun e m => endK f73 m0 .nrm e m)
def x73_3 (call : CL) (n : Nat) (m0 : Mem) : KX := (endK f73 m0)
def S73_3 (call : CL) (n : Nat) (m0 : Mem) (y0 y1 : AV) (m : Mem) : Rho := G73_3 call n m0 y0 y1 m
def d73_3 (call : CL) (n : Nat) (m0 : Mem) (y0 y1 : AV) (m : Mem) : Rho := evK call n b73_3 [(0, y0), (5, y1)] m (k73_3 call n m0) (x73_3 call n m0)
theorem l73_3 {call : CL} {n : Nat} {m0 : Mem} : d73_3 call n m0 = S73_3 call n m0 := by
  funext y0 y1 m
  have h : d73_3 call n m0 y0 y1 m = G73_3 call n m0 y0 y1 m := Eq.mp (by kernel_rfl) (g73_3 call n m0 y0 y1 m)
  exact h
def G73_0 (call : CL) (n : Nat) (kn : KN) (kx : KX) (y0 y1 y2 y3 : AV) (m : Mem) : Rho :=
  binK .add y3 (.int .i64 1) fun a0 =>
  kn [(0, y0), (1, y1), (5, y2), (6, a0)] m
theorem g73_0 (call : CL) (n : Nat) (kn : KN) (kx : KX) (y0 y1 y2 y3 : AV) (m : Mem) : evK call n b73_0 [(0, y0), (1, y1), (5, y2), (6, y3)] m kn kx = G73_0 call n kn kx y0 y1 y2 y3 m := by kernel_rfl
def k73_0 (call : CL) (n : Nat) (kn : KN) (kx : KX) : KN := kn
def x73_0 (call : CL) (n : Nat) (kn : KN) (kx : KX) : KX := kx
def S73_0 (call : CL) (n : Nat) (kn : KN) (kx : KX) (y0 y1 y2 y3 : AV) (m : Mem) : Rho := G73_0 call n kn kx y0 y1 y2 y3 m
def d73_0 (call : CL) (n : Nat) (kn : KN) (kx : KX) (y0 y1 y2 y3 : AV) (m : Mem) : Rho := evK call n b73_0 [(0, y0), (1, y1), (5, y2), (6, y3)] m (k73_0 call n kn kx) (x73_0 call n kn kx)
theorem l73_0 {call : CL} {n : Nat} {kn : KN} {kx : KX} : d73_0 call n kn kx = S73_0 call n kn kx := by
  funext y0 y1 y2 y3 m
  have h : d73_0 call n kn kx y0 y1 y2 y3 m = G73_0 call n kn kx y0 y1 y2 y3 m := Eq.mp (by kernel_rfl) (g73_0 call n kn kx y0 y1 y2 y3 m)
  exact h
def G73_1 (call : CL) (n : Nat) (kn : KN) (kx : KX) (Q73_0 : Y4) (y0 y1 y2 y3 : AV) (m : Mem) : Rho :=
  vK (aIndexAddr m 1 y0 y3) m fun a0 m1 =>
  loadK none a0 m1 fun a2 m3 =>
  callK call y1 false [a2] m3 fun a4 m5 =>
  unK .not a4 fun a6 =>
  condK a6
  (vK (aIndexAddr m5 1 y0 y2) m5 fun a7 m8 =>
  storeK 1 a7 a2 m8 fun a9 m10 =>
  binK .add y2 (.int .i64 1) fun a11 =>
  Q73_0 y0 y1 a11 y3 m10)
  (Q73_0 y0 y1 y2 y3 m5)
theorem g73_1 (call : CL) (n : Nat) (kn : KN) (kx : KX) (b73_0 : C) (y0 y1 y2 y3 : AV) (m : Mem) : evK call n (c73_1 b73_0) [(0, y0), (1, y1), (5, y2), (6, y3)] m kn kx = G73_1 call n kn kx (fun x0 x1 x2 x3 m => evK call n b73_0 [(0, x0), (1, x1), (5, x2), (6, x3)] m kn kx) y0 y1 y2 y3 m := by kernel_rfl
def k73_1 (call : CL) (n : Nat) (kn : KN) (kx : KX) : KN := kn
def x73_1 (call : CL) (n : Nat) (kn : KN) (kx : KX) : KX := kx
def S73_1 (call : CL) (n : Nat) (kn : KN) (kx : KX) (y0 y1 y2 y3 : AV) (m : Mem) : Rho := G73_1 call n kn kx (S73_0 call n kn kx) y0 y1 y2 y3 m
def d73_1 (call : CL) (n : Nat) (kn : KN) (kx : KX) (y0 y1 y2 y3 : AV) (m : Mem) : Rho := evK call n b73_1 [(0, y0), (1, y1), (5, y2), (6, y3)] m (k73_1 call n kn kx) (x73_1 call n kn kx)
theorem l73_1 {call : CL} {n : Nat} {kn : KN} {kx : KX} : d73_1 call n kn kx = S73_1 call n kn kx := by
  funext y0 y1 y2 y3 m
  have h : d73_1 call n kn kx y0 y1 y2 y3 m = G73_1 call n kn kx (d73_0 call n kn kx) y0 y1 y2 y3 m := Eq.mp (by kernel_rfl) (g73_1 call n kn kx b73_0 y0 y1 y2 y3 m)
  rw [l73_0] at h; exact h
def G73_2 (call : CL) (n : Nat) (kn : KN) (kx : KX) (Q73_1 : Y4) (y0 y1 y2 y3 : AV) (m : Mem) : Rho :=
  vK (aLen m 1 y0) m fun a0 m1 =>
  binK .lss y3 a0 fun a2 =>
  condK a2
  (Q73_1 y0 y1 y2 y3 m1)
  (kx (.ext 0) [(0, y0), (1, y1), (5, y2), (6, y3), (19, a2)] m1)
theorem g73_2 (call : CL) (n : Nat) (kn : KN) (kx : KX) (b73_1 : C) (y0 y1 y2 y3 : AV) (m : Mem) : evK call n (c73_2 b73_1) [(0, y0), (1, y1), (5, y2), (6, y3)] m kn kx = G73_2 call n kn kx (fun x0 x1 x2 x3 m => evK call n b73_1 [(0, x0), (1, x1), (5, x2), (6, x3)] m kn kx) y0 y1 y2 y3 m := by kernel_rfl
def S73_2 (call : CL) (n : Nat) (kn : KN) (kx : KX) (y0 y1 y2 y3 : AV) (m : Mem) : Rho := G73_2 call n kn kx (S73_1 call n kn kx) y0 y1 y2 y3 m
def d73_2 (call : CL) (n : Nat) (kn : KN) (kx : KX) (y0 y1 y2 y3 : AV) (m : Mem) : Rho := evK call n b73_2 [(0, y0), (1, y1), (5, y2), (6, y3)] m kn kx
theorem l73_2 {call : CL} {n : Nat} : d73_2 call n = S73_2 call n := by
  funext kn kx y0 y1 y2 y3 m
  have h : d73_2 call n kn kx y0 y1 y2 y3 m = G73_2 call n kn kx (d73_1 call n kn kx) y0 y1 y2 y3 m := Eq.mp (by kernel_rfl) (g73_2 call n kn kx b73_1 y0 y1 y2 y3 m)
  rw [l73_1] at h; exact h
def G73_4 (call : CL) (n : Nat) (m0 : Mem) (B73_2 : KN → KX → Y4) (Q73_3 : Y2) (y0 y1 y2 : AV) (m : Mem) : Rho :=
  binK .add y2 (.int .i64 1) fun a0 =>
  loopV [0, 1, 5, 6] none (fun vs m kn kx => unc vs fun x0 vs => unc vs fun x1 vs => unc vs fun x2 vs => unc vs fun x3 vs => unz vs (B73_2 kn kx x0 x1 x2 x3 m)) (blkK 0 (fun e m => keepK e [0, 5] fun vs => unc vs fun x0 vs => unc vs fun x1 vs => unz vs (Q73_3 x0 x1 m)) (endK f73 m0)) n [y0, y1, y2, a0] m
theorem g73_4 (call : CL) (n : Nat) (m0 : Mem) (b73_2 : C) (b73_3 : C) (y0 y1 y2 : AV) (m : Mem) : evK call n (c73_4 b73_2 b73_3) [(0, y0), (1, y1), (5, y2)] m (fun e m => endK f73 m0 .nrm e m) (endK f73 m0) = G73_4 call n m0 (fun kn kx x0 x1 x2 x3 m => evK call n b73_2 [(0, x0), (1, x1), (5, x2), (6, x3)] m kn kx) (fun x0 x1 m => evK call n b73_3 [(0, x0), (5, x1)] m (fun e m => endK f73 m0 .nrm e m) (endK f73 m0)) y0 y1 y2 m := by kernel_rfl
def k73_4 (call : CL) (n : Nat) (m0 : Mem) : KN := (fun e m => endK f73 m0 .nrm e m)
def x73_4 (call : CL) (n : Nat) (m0 : Mem) : KX := (endK f73 m0)
def S73_4 (call : CL) (n : Nat) (m0 : Mem) (y0 y1 y2 : AV) (m : Mem) : Rho := G73_4 call n m0 (S73_2 call n) (S73_3 call n m0) y0 y1 y2 m
def d73_4 (call : CL) (n : Nat) (m0 : Mem) (y0 y1 y2 : AV) (m : Mem) : Rho := evK call n b73_4 [(0, y0), (1, y1), (5, y2)] m (k73_4 call n m0) (x73_4 call n m0)
theorem l73_4 {call : CL} {n : Nat} {m0 : Mem} : d73_4 call n m0 = S73_4 call n m0 := by
  funext y0 y1 y2 m
  have h : d73_4 call n m0 y0 y1 y2 m = G73_4 call n m0 (d73_2 call n) (d73_3 call n m0) y0 y1 y2 m := Eq.mp (by kernel_rfl) (g73_4 call n m0 b73_2 b73_3 y0 y1 y2 m)
  rw [l73_2, l73_3] at h; exact h
def G73 (call : CL) (n : Nat) (m0 : Mem) (Q73_4 : Y3) (y0 y1 : AV) (m : Mem) : Rho :=
  callK call (.func 91 [] []) false [y0, y1] m fun a0 m1 =>
  binK .eql a0 (.int .i64 (-1)) fun a2 =>
  condK a2
  (retK false false m0 [y0] m1)
  (Q73_4 y0 y1 a0 m1)
theorem g73 (call : CL) (n : Nat) (m0 : Mem) (b73_4 : C) (y0 y1 : AV) (m : Mem) : evK call n (c73 b73_4) [(0, y0), (1, y1)] m (fun e m => endK f73 m0 .nrm e m) (endK f73 m0) = G73 call n m0 (fun x0 x1 x2 m => evK call n b73_4 [(0, x0), (1, x1), (5, x2)] m (fun e m => endK f73 m0 .nrm e m) (endK f73 m0)) y0 y1 m := by kernel_rfl
def S73 (call : CL) (n : Nat) (m0 : Mem) (y0 y1 : AV) : Rho := G73 call n m0 (S73_4 call n m0) y0 y1 { m0 with bad := none }
theorem s73 (call : CL) (n : Nat) (m0 : Mem) (y0 y1 : AV) : bodyK call n f73 [y0, y1] m0 = S73 call n m0 y0 y1 :=
  have h : bodyK call n f73 [y0, y1] m0 = G73 call n m0 (d73_4 call n m0) y0 y1 { m0 with bad := none } := Eq.mp (by kernel_rfl) (g73 call n m0 b73_4 y0 y1 { m0 with bad := none })
  by rw [l73_4] at h; exact h
def F73 : SF := fun call n vs m0 => unc vs fun x0 vs => unc vs fun x1 vs => unz vs (S73 call n m0 x0 x1)
theorem F73_ok {orc : List AV → Mem → Option (AV × Mem)} : SOk 73 { f73 with orc := orc } F73 := by
  intro call n vs m0 ho r h0
  simp only [F73] at h0
  obtain ⟨y0, v0, rfl, h1⟩ := unc_some h0
  obtain ⟨y1, v1, rfl, h2⟩ := unc_some h1
  obtain ⟨rfl, hz⟩ := unz_some h2
  exact bodyK_le ho rfl r (Eq.mp (by kernel_rfl) ((s73 call n m0 y0 y1).trans hz))

-- resolvent/pairs.Places$1
def G74 (call : CL) (n : Nat) (m0 : Mem) (y0 : AV) (m : Mem) : Rho :=
  binK .lss y0 (.int .i64 0) fun a0 =>
  retK false false m0 [a0] m
theorem g74 (call : CL) (n : Nat) (m0 : Mem) (y0 : AV) (m : Mem) : evK call n b74 [(0, y0)] m (fun e m => endK f74 m0 .nrm e m) (endK f74 m0) = G74 call n m0 y0 m := by kernel_rfl
def S74 (call : CL) (n : Nat) (m0 : Mem) (y0 : AV) : Rho := G74 call n m0 y0 { m0 with bad := none }
theorem s74 (call : CL) (n : Nat) (m0 : Mem) (y0 : AV) : bodyK call n f74 [y0] m0 = S74 call n m0 y0 :=
  have h : bodyK call n f74 [y0] m0 = G74 call n m0 y0 { m0 with bad := none } := Eq.mp (by kernel_rfl) (g74 call n m0 y0 { m0 with bad := none })
  h
def F74 : SF := fun call n vs m0 => unc vs fun x0 vs => unz vs (S74 call n m0 x0)
theorem F74_ok {orc : List AV → Mem → Option (AV × Mem)} : SOk 74 { f74 with orc := orc } F74 := by
  intro call n vs m0 ho r h0
  simp only [F74] at h0
  obtain ⟨y0, v0, rfl, h1⟩ := unc_some h0
  obtain ⟨rfl, hz⟩ := unz_some h1
  exact bodyK_le ho rfl r (Eq.mp (by kernel_rfl) ((s74 call n m0 y0).trans hz))

-- slices.Index[[]int,int]
def G79_3 (call : CL) (n : Nat) (m0 : Mem) (m : Mem) : Rho :=
  retK false false m0 [(.int .i64 (-1))] m
theorem g79_3 (call : CL) (n : Nat) (m0 : Mem) (m : Mem) : evK call n b79_3 [] m (fun e m => endK f79 m0 .nrm e m) (endK f79 m0) = G79_3 call n m0 m := by kernel_rfl
def k79_3 (call : CL) (n : Nat) (m0 : Mem) : KN := (fun e m => endK f79 m0 .nrm e m)
def x79_3 (call : CL) (n : Nat) (m0 : Mem) : KX := (endK f79 m0)
def S79_3 (call : CL) (n : Nat) (m0 : Mem) (m : Mem) : Rho := G79_3 call n m0 m
def d79_3 (call : CL) (n : Nat) (m0 : Mem) (m : Mem) : Rho := evK call n b79_3 [] m (k79_3 call n m0) (x79_3 call n m0)
theorem l79_3 {call : CL} {n : Nat} {m0 : Mem} : d79_3 call n m0 = S79_3 call n m0 := by
  funext m
  have h : d79_3 call n m0 m = G79_3 call n m0 m := Eq.mp (by kernel_rfl) (g79_3 call n m0 m)
  exact h
def G79_0 (call : CL) (n : Nat) (kn : KN) (kx : KX) (y0 y1 y2 y3 : AV) (m : Mem) : Rho :=
  binK .add y3 (.int .i64 1) fun a0 =>
  kn [(0, y0), (1, y1), (7, y2), (8, a0)] m
theorem g79_0 (call : CL) (n : Nat) (kn : KN) (kx : KX) (y0 y1 y2 y3 : AV) (m : Mem) : evK call n b79_0 [(0, y0), (1, y1), (7, y2), (8, y3)] m kn kx = G79_0 call n kn kx y0 y1 y2 y3 m := by kernel_rfl
def k79_0 (call : CL) (n : Nat) (kn : KN) (kx : KX) : KN := kn
def x79_0 (call : CL) (n : Nat) (kn : KN) (kx : KX) : KX := kx
def S79_0 (call : CL) (n : Nat) (kn : KN) (kx : KX) (y0 y1 y2 y3 : AV) (m : Mem) : Rho := G79_0 call n kn kx y0 y1 y2 y3 m
def d79_0 (call : CL) (n : Nat) (kn : KN) (kx : KX) (y0 y1 y2 y3 : AV) (m : Mem) : Rho := evK call n b79_0 [(0, y0), (1, y1), (7, y2), (8, y3)] m (k79_0 call n kn kx) (x79_0 call n kn kx)
theorem l79_0 {call : CL} {n : Nat} {kn : KN} {kx : KX} : d79_0 call n kn kx = S79_0 call n kn kx := by
  funext y0 y1 y2 y3 m
  have h : d79_0 call n kn kx y0 y1 y2 y3 m = G79_0 call n kn kx y0 y1 y2 y3 m := Eq.mp (by kernel_rfl) (g79_0 call n kn kx y0 y1 y2 y3 m)
  exact h
def G79_1 (call : CL) (n : Nat) (kn : KN) (kx : KX) (Q79_0 : Y4) (y0 y1 y2 y3 : AV) (m : Mem) : Rho :=
  vK (aIndexAddr m 1 y0 y3) m fun a0 m1 =>
  loadK none a0 m1 fun a2 m3 =>
  binK .eql y1 a2 fun a4 =>
  condK a4
  (kx .ret [(4, y3)] m3)
  (Q79_0 y0 y1 y2 y3 m3)
theorem g79_1 (call : CL) (n : Nat) (kn : KN) (kx : KX) (b79_0 : C) (y0 y1 y2 y3 : AV) (m : Mem) : evK call n (c79_1 b79_0) [(0, y0), (1, y1), (7, y2), (8, y3)] m kn kx = G79_1 call n kn kx (fun x0 x1 x2 x3 m => evK call n b79_0 [(0, x0), (1, x1), (7, x2), (8, x3)] m kn kx) y0 y1 y2 y3 m := by kernel_rfl
def k79_1 (call : CL) (n : Nat) (kn : KN) (kx : KX) : KN := kn
def x79_1 (call : CL) (n : Nat) (kn : KN) (kx : KX) : KX := kx
def S79_1 (call : CL) (n : Nat) (kn : KN) (kx : KX) (y0 y1 y2 y3 : AV) (m : Mem) : Rho := G79_1 call n kn kx (S79_0 call n kn kx) y0 y1 y2 y3 m
def d79_1 (call : CL) (n : Nat) (kn : KN) (kx : KX) (y0 y1 y2 y3 : AV) (m : Mem) : Rho := evK call n b79_1 [(0, y0), (1, y1), (7, y2), (8, y3)] m (k79_1 call n kn kx) (x79_1 call n kn kx)
theorem l79_1 {call : CL} {n : Nat} {kn : KN} {kx : KX} : d79_1 call n kn kx = S79_1 call n kn kx := by
  funext y0 y1 y2 y3 m
  have h : d79_1 call n kn kx y0 y1 y2 y3 m = G79_1 call n kn kx (d79_0 call n kn kx) y0 y1 y2 y3 m := Eq.mp (by kernel_rfl) (g79_1 call n kn kx b79_0 y0 y1 y2 y3 m)
  rw [l79_0] at h; exact h
def G79_2 (call : CL) (n : Nat) (kn : KN) (kx : KX) (Q79_1 : Y4) (y0 y1 y2 y3 : AV) (m : Mem) : Rho :=
  binK .lss y3 y2 fun a0 =>
  condK a0
  (Q79_1 y0 y1 y2 y3 m)
  (kx (.ext 0) [(0, y0), (1, y1), (7, y2), (8, y3), (9, a0)] m)
theorem g79_2 (call : CL) (n : Nat) (kn : KN) (kx : KX) (b79_1 : C) (y0 y1 y2 y3 : AV) (m : Mem) : evK call n (c79_2 b79_1) [(0, y0), (1, y1), (7, y2), (8, y3)] m kn kx = G79_2 call n kn kx (fun x0 x1 x2 x3 m => evK call n b79_1 [(0, x0), (1, x1), (7, x2), (8, x3)] m kn kx) y0 y1 y2 y3 m := by kernel_rfl
def S79_2 (call : CL) (n : Nat) (kn : KN) (kx : KX) (y0 y1 y2 y3 : AV) (m : Mem) : Rho := G79_2 call n kn kx (S79_1 call n kn kx) y0 y1 y2 y3 m
def d79_2 (call : CL) (n : Nat) (kn : KN) (kx : KX) (y0 y1 y2 y3 : AV) (m : Mem) : Rho := evK call n b79_2 [(0, y0), (1, y1), (7, y2), (8, y3)] m kn kx
theorem l79_2 {call : CL} {n : Nat} : d79_2 call n = S79_2 call n := by
  funext kn kx y0 y1 y2 y3 m
  have h : d79_2 call n kn kx y0 y1 y2 y3 m = G79_2 call n kn kx (d79_1 call n kn kx) y0 y1 y2 y3 m := Eq.mp (by kernel_rfl) (g79_2 call n kn kx b79_1 y0 y1 y2 y3 m)
  rw [l79_1] at h; exact h
def G79 (call : CL) (n : Nat) (m0 : Mem) (B79_2 : KN → KX → Y4) (Q79_3 : Y0) (y0 y1 : AV) (m : Mem) : Rho :=
  vK (aLen m 1 y0) m fun a0 m1 =>
  loopV [0, 1, 7, 8] none (fun vs m kn kx => unc vs fun x0 vs => unc vs fun x1 vs => unc vs fun x2 vs => unc vs fun x3 vs => unz vs (B79_2 kn kx x0 x1 x2 x3 m)) (blkK 0 (fun e m => keepK e [] fun vs => unz vs (Q79_3 m)) (endK f79 m0)) n [y0, y1, a0, (.int .i64 0)] m1
theorem g79 (call : CL) (n : Nat) (m0 : Mem) (b79_2 : C) (b79_3 : C) (y0 y1 : AV) (m : Mem) : evK call n (c79 b79_2 b79_3) [(0, y0), (1, y1)] m (fun e m => endK f79 m0 .nrm e m) (endK f79 m0) = G79 call n m0 (fun kn kx x0 x1 x2 x3 m => evK call n b79_2 [(0, x0), (1, x1), (7, x2), (8, x3)] m kn kx) (fun m => evK call n b79_3 [] m (fun e m => endK f79 m0 .nrm e m) (endK f79 m0)) y0 y1 m := by kernel_rfl
def S79 (call : CL) (n : Nat) (m0 : Mem) (y0 y1 : AV) : Rho := G79 call n m0 (S79_2 call n) (S79_3 call n m0) y0 y1 { m0 with bad := none }
theorem s79 (call : CL) (n : Nat) (m0 : Mem) (y0 y1 : AV) : bodyK call n f79 [y0, y1] m0 = S79 call n m0 y0 y1 :=
  have h : bodyK call n f79 [y0, y1] m0 = G79 call n m0 (d79_2 call n) (d79_3 call n m0) y0 y1 { m0 with bad := none } := Eq.mp (by kernel_rfl) (g79 call n m0 b79_2 b79_3 y0 y1 { m0 with bad := none })
  by rw [l79_2, l79_3] at h; exact h
def F79 : SF := fun call n vs m0 => unc vs fun x0 vs => unc vs fun x1 vs => unz vs (S79 call n m0 x0 x1)
theorem F79_ok {orc : List AV → Mem → Option (AV × Mem)} : SOk 79 { f79 with orc := orc } F79 := by
  intro call n vs m0 ho r h0
  simp only [F79] at h0
  obtain ⟨y0, v0, rfl, h1⟩ := unc_some h0
  obtain ⟨y1, v1, rfl, h2⟩ := unc_some h1
  obtain ⟨rfl, hz⟩ := unz_some h2
  exact bodyK_le ho rfl r (Eq.mp (by kernel_rfl) ((s79 call n m0 y0 y1).trans hz))

-- resolvent/pairs.good$1
def G85_0 (call : CL) (n : Nat) (kn : KN) (kx : KX) (y0 y1 y2 y3 : AV) (m : Mem) : Rho :=
  binK .add y3 (.int .i64 1) fun a0 =>
  kn [(0, y0), (5, y1), (6, y2), (7, a0)] m
theorem g85_0 (call : CL) (n : Nat) (kn : KN) (kx : KX) (y0 y1 y2 y3 : AV) (m : Mem) : evK call n b85_0 [(0, y0), (5, y1), (6, y2), (7, y3)] m kn kx = G85_0 call n kn kx y0 y1 y2 y3 m := by kernel_rfl
def k85_0 (call : CL) (n : Nat) (kn : KN) (kx : KX) : KN := kn
def x85_0 (call : CL) (n : Nat) (kn : KN) (kx : KX) : KX := kx
def S85_0 (call : CL) (n : Nat) (kn : KN) (kx : KX) (y0 y1 y2 y3 : AV) (m : Mem) : Rho := G85_0 call n kn kx y0 y1 y2 y3 m
def d85_0 (call : CL) (n : Nat) (kn : KN) (kx : KX) (y0 y1 y2 y3 : AV) (m : Mem) : Rho := evK call n b85_0 [(0, y0), (5, y1), (6, y2), (7, y3)] m (k85_0 call n kn kx) (x85_0 call n kn kx)
theorem l85_0 {call : CL} {n : Nat} {kn : KN} {kx : KX} : d85_0 call n kn kx = S85_0 call n kn kx := by
  funext y0 y1 y2 y3 m
  have h : d85_0 call n kn kx y0 y1 y2 y3 m = G85_0 call n kn kx y0 y1 y2 y3 m := Eq.mp (by kernel_rfl) (g85_0 call n kn kx y0 y1 y2 y3 m)
  exact h
def G85_1 (call : CL) (n : Nat) (kn : KN) (kx : KX) (Q85_0 : Y4) (y0 y1 y2 y3 : AV) (m : Mem) : Rho :=
  vK (aIndexAddr m 2 y1 y3) m fun a0 m1 =>
  loadK (some 2) a0 m1 fun a2 m3 =>
  newK [(.int .i64 0), (.int .i64 0)] m3 fun a4 m5 =>
  storeK 2 a4 a2 m5 fun a6 m7 =>
  vK (aIndexAddrA 2 1 a4 (.int .i64 0)) m7 fun a8 m9 =>
  loadK none a8 m9 fun a10 m11 =>
  vK (aIndexAddrA 2 1 a4 (.int .i64 1)) m11 fun a12 m13 =>
  loadK none a12 m13 fun a14 m15 =>
  min2K a10 a14 fun a16 =>
  vK (aIndexAddrA 2 1 a4 (.int .i64 0)) m15 fun a17 m18 =>
  loadK none a17 m18 fun a19 m20 =>
  vK (aIndexAddrA 2 1 a4 (.int .i64 1)) m20 fun a21 m22 =>
  loadK none a21 m22 fun a23 m24 =>
  max2K a19 a23 fun a25 =>
  buildK [(.int .i64 0), (.int .i64 0)] [(0, 1, AV.untag1 a16), (1, 1, AV.untag1 a25)] fun a26 =>
  storeK 2 a4 a26 m24 fun a27 m28 =>
  vK (aIndexAddrA 2 1 a4 (.int .i64 0)) m28 fun a29 m30 =>
  loadK none a29 m30 fun a31 m32 =>
  binK .geq a31 (.int .i64 0) fun a33 =>
  gK a33 true (fun k => vK (aIndexAddrA 2 1 a4 (.int .i64 0)) m32 fun a34 m35 =>
  k a34 m35) m32 fun a36 m37 =>
  gK a33 true (fun k => loadK none a36 m37 fun a38 m39 =>
  k a38 m39) m37 fun a40 m41 =>
  gK a33 true (fun k => vK (aIndexAddrA 2 1 a4 (.int .i64 1)) m41 fun a42 m43 =>
  k a42 m43) m41 fun a44 m45 =>
  gK a33 true (fun k => loadK none a44 m45 fun a46 m47 =>
  k a46 m47) m45 fun a48 m49 =>
  gK a33 true (fun k => binK .neq a40 a48 fun a50 =>
  k a50 m49) m49 fun a51 m52 =>
  pickK a33 (some a51) (some (.bool false)) fun a53 =>
  gK a53 true (fun k => k y0 m52) m52 fun a54 m55 =>
  gK a53 true (fun k => loadK (some 2) a4 m55 fun a56 m57 =>
  k a56 m57) m55 fun a58 m59 =>
  gK a53 true (fun k => callK call a54 false [a58] m59 fun a60 m61 =>
  k a60 m61) m59 fun a62 m63 =>
  gK a53 true (fun k => unK .not a62 fun a64 =>
  k a64 m63) m63 fun a65 m66 =>
  pickK a53 (some a65) (some (.bool false)) fun a67 =>
  condK a67
  (kx .ret [(0, y0), (5, y1), (6, y2), (7, y3), (37, a67)] m66)
  (Q85_0 y0 y1 y2 y3 m66)
theorem g85_1 (call : CL) (n : Nat) (kn : KN) (kx : KX) (b85_0 : C) (y0 y1 y2 y3 : AV) (m : Mem) : evK call n (c85_1 b85_0) [(0, y0), (5, y1), (6, y2), (7, y3)] m kn kx = G85_1 call n kn kx (fun x0 x1 x2 x3 m => evK call n b85_0 [(0, x0), (5, x1), (6, x2), (7, x3)] m kn kx) y0 y1 y2 y3 m := by kernel_rfl
def k85_1 (call : CL) (n : Nat) (kn : KN) (kx : KX) : KN := kn
def x85_1 (call : CL) (n : Nat) (kn : KN) (kx : KX) : KX := kx
def S85_1 (call : CL) (n : Nat) (kn : KN) (kx : KX) (y0 y1 y2 y3 : AV) (m : Mem) : Rho := G85_1 call n kn kx (S85_0 call n kn kx) y0 y1 y2 y3 m
def d85_1 (call : CL) (n : Nat) (kn : KN) (kx : KX) (y0 y1 y2 y3 : AV) (m : Mem) : Rho := evK call n b85_1 [(0, y0), (5, y1), (6, y2), (7, y3)] m (k85_1 call n kn kx) (x85_1 call n kn kx)
theorem l85_1 {call : CL} {n : Nat} {kn : KN} {kx : KX} : d85_1 call n kn kx = S85_1 call n kn kx := by
  funext y0 y1 y2 y3 m
  have h : d85_1 call n kn kx y0 y1 y2 y3 m = G85_1 call n kn kx (d85_0 call n kn kx) y0 y1 y2 y3 m := Eq.mp (by kernel_rfl) (g85_1 call n kn kx b85_0 y0 y1 y2 y3 m)
  rw [l85_0] at h; exact h
def G85_2 (call : CL) (n : Nat) (kn : KN) (kx : KX) (Q85_1 : Y4) (y0 y1 y2 y3 : AV) (m : Mem) : Rho :=
  binK .lss y3 y2 fun a0 =>
  condK a0
  (Q85_1 y0 y1 y2 y3 m)
  (kx (.ext 0) [(0, y0), (5, y1), (6, y2), (7, y3), (8, a0)] m)
theorem g85_2 (call : CL) (n : Nat) (kn : KN) (kx : KX) (b85_1 : C) (y0 y1 y2 y3 : AV) (m : Mem) : evK call n (c85_2 b85_1) [(0, y0), (5, y1), (6, y2), (7, y3)] m kn kx = G85_2 call n kn kx (fun x0 x1 x2 x3 m => evK call n b85_1 [(0, x0), (5, x1), (6, x2), (7, x3)] m kn kx) y0 y1 y2 y3 m := by kernel_rfl
def S85_2 (call : CL) (n : Nat) (kn : KN) (kx : KX) (y0 y1 y2 y3 : AV) (m : Mem) : Rho := G85_2 call n kn kx (S85_1 call n kn kx) y0 y1 y2 y3 m
def d85_2 (call : CL) (n : Nat) (kn : KN) (kx : KX) (y0 y1 y2 y3 : AV) (m : Mem) : Rho := evK call n b85_2 [(0, y0), (5, y1), (6, y2), (7, y3)] m kn kx
theorem l85_2 {call : CL} {n : Nat} : d85_2 call n = S85_2 call n := by
  funext kn kx y0 y1 y2 y3 m
  have h : d85_2 call n kn kx y0 y1 y2 y3 m = G85_2 call n kn kx (d85_1 call n kn kx) y0 y1 y2 y3 m := Eq.mp (by kernel_rfl) (g85_2 call n kn kx b85_1 y0 y1 y2 y3 m)
  rw [l85_1] at h; exact h
def G85 (call : CL) (n : Nat) (m0 : Mem) (B85_2 : KN → KX → Y4) (y0 y1 : AV) (m : Mem) : Rho :=
  loadK none y1 m fun a0 m1 =>
  vK (aLen m1 1 a0) m1 fun a2 m3 =>
  loopV [0, 5, 6, 7] none (fun vs m kn kx => unc vs fun x0 vs => unc vs fun x1 vs => unc vs fun x2 vs => unc vs fun x3 vs => unz vs (B85_2 kn kx x0 x1 x2 x3 m)) (blkK 0 (fun e m => endK f85 m0 .nrm e m) (endK f85 m0)) n [y0, a0, a2, (.int .i64 0)] m3
theorem g85 (call : CL) (n : Nat) (m0 : Mem) (b85_2 : C) (y0 y1 : AV) (m : Mem) : evK call n (c85 b85_2) [(0, y0), (1, y1)] m (fun e m => endK f85 m0 .nrm e m) (endK f85 m0) = G85 call n m0 (fun kn kx x0 x1 x2 x3 m => evK call n b85_2 [(0, x0), (5, x1), (6, x2), (7, x3)] m kn kx) y0 y1 m := by kernel_rfl
def S85 (call : CL) (n : Nat) (m0 : Mem) (y0 y1 : AV) : Rho := G85 call n m0 (S85_2 call n) y0 y1 { m0 with bad := none }
theorem s85 (call : CL) (n : Nat) (m0 : Mem) (y0 y1 : AV) : bodyK call n f85 [y0, y1] m0 = S85 call n m0 y0 y1 :=
  have h : bodyK call n f85 [y0, y1] m0 = G85 call n m0 (d85_2 call n) y0 y1 { m0 with bad := none } := Eq.mp (by kernel_rfl) (g85 call n m0 b85_2 y0 y1 { m0 with bad := none })
  by rw [l85_2] at h; exact h
def F85 : SF := fun call n vs m0 => unc vs fun x0 vs => unc vs fun x1 vs => unz vs (S85 call n m0 x0 x1)
theorem F85_ok {orc : List AV → Mem → Option (AV × Mem)} : SOk 85 { f85 with orc := orc } F85 := by
  intro call n vs m0 ho r h0
  simp only [F85] at h0
  obtain ⟨y0, v0, rfl, h1⟩ := unc_some h0
  obtain ⟨y1, v1, rfl, h2⟩ := unc_some h1
  obtain ⟨rfl, hz⟩ := unz_some h2
  exact bodyK_le ho rfl r (Eq.mp (by kernel_rfl) ((s85 call n m0 y0 y1).trans hz))

-- slices.AppendSeq[[][2]int,[2]int]
def G86_2 (call : CL) (n : Nat) (m0 : Mem) (y0 : AV) (m : Mem) : Rho :=
  loadK none y0 m fun a0 m1 =>
  retK false false m0 [a0] m1
theorem g86_2 (call : CL) (n : Nat) (m0 : Mem) (y0 : AV) (m : Mem) : evK call n b86_2 [(2, y0)] m (fun e m => endK f86 m0 .nrm e m) (endK f86 m0) = G86_2 call n m0 y0 m := by kernel_rfl
def k86_2 (call : CL) (n : Nat) (m0 : Mem) : KN := (fun e m => endK f86 m0 .nrm e m)
def x86_2 (call : CL) (n : Nat) (m0 : Mem) : KX := (endK f86 m0)
def S86_2 (call : CL) (n : Nat) (m0 : Mem) (y0 : AV) (m : Mem) : Rho := G86_2 call n m0 y0 m
def d86_2 (call : CL) (n : Nat) (m0 : Mem) (y0 : AV) (m : Mem) : Rho := evK call n b86_2 [(2, y0)] m (k86_2 call n m0) (x86_2 call n m0)
theorem l86_2 {call : CL} {n : Nat} {m0 : Mem} : d86_2 call n m0 = S86_2 call n m0 := by
  funext y0 m
  have h : d86_2 call n m0 y0 m = G86_2 call n m0 y0 m := Eq.mp (by kernel_rfl) (g86_2 call n m0 y0 m)
  exact h
def G86_0 (call : CL) (n : Nat) (kn : KN) (kx : KX) (y0 y1 y2 : AV) (m : Mem) : Rho :=
  newK [(.int .i64 0), (.int .i64 0)] m fun a0 m1 =>
  storeK 2 a0 y0 m1 fun a2 m3 =>
  kn [(2, y1), (5, a0)] m3
theorem g86_0 (call : CL) (n : Nat) (kn : KN) (kx : KX) (y0 y1 y2 : AV) (m : Mem) : evK call n b86_0 [(7, y0), (2, y1), (4, y2)] m kn kx = G86_0 call n kn kx y0 y1 y2 m := by kernel_rfl
def S86_0 (call : CL) (n : Nat) (kn : KN) (kx : KX) (y0 y1 y2 : AV) (m : Mem) : Rho := G86_0 call n kn kx y0 y1 y2 m
def d86_0 (call : CL) (n : Nat) (kn : KN) (kx : KX) (y0 y1 y2 : AV) (m : Mem) : Rho := evK call n b86_0 [(7, y0), (2, y1), (4, y2)] m kn kx
theorem l86_0 {call : CL} {n : Nat} : d86_0 call n = S86_0 call n := by
  funext kn kx y0 y1 y2 m
  have h : d86_0 call n kn kx y0 y1 y2 m = G86_0 call n kn kx y0 y1 y2 m := Eq.mp (by kernel_rfl) (g86_0 call n kn kx y0 y1 y2 m)
  exact h
def G86_1 (call : CL) (n : Nat) (kn : KN) (kx : KX) (y0 y1 : AV) (m : Mem) : Rho :=
  loadK none y0 m fun a0 m1 =>
  loadK (some 2) y1 m1 fun a2 m3 =>
  buildSliceK 2 [(.int .i64 0), (.int .i64 0)] 1 false [(0 * 2, 2, AV.untag a2)] m3 fun a4 m5 =>
  appendK 2 16 1 a0 a4 m5 fun a6 m7 =>
  storeK 1 y0 a6 m7 fun a8 m9 =>
  kn [] m9
theorem g86_1 (call : CL) (n : Nat) (kn : KN) (kx : KX) (y0 y1 : AV) (m : Mem) : evK call n b86_1 [(2, y0), (5, y1)] m kn kx = G86_1 call n kn kx y0 y1 m := by kernel_rfl
def S86_1 (call : CL) (n : Nat) (kn : KN) (kx : KX) (y0 y1 : AV) (m : Mem) : Rho := G86_1 call n kn kx y0 y1 m
def d86_1 (call : CL) (n : Nat) (kn : KN) (kx : KX) (y0 y1 : AV) (m : Mem) : Rho := evK call n b86_1 [(2, y0), (5, y1)] m kn kx
theorem l86_1 {call : CL} {n : Nat} : d86_1 call n = S86_1 call n := by
  funext kn kx y0 y1 m
  have h : d86_1 call n kn kx y0 y1 m = G86_1 call n kn kx y0 y1 m := Eq.mp (by kernel_rfl) (g86_1 call n kn kx y0 y1 m)
  exact h
def G86 (call : CL) (n : Nat) (m0 : Mem) (Q86_2 : Y1) (y0 y1 : AV) (m : Mem) : Rho :=
  boxK y0 m fun a0 m1 =>
  rangeK call y1 [7] b86_0 b86_1 [(2, a0), (4, (.list .full 2 []))] m1 (fun e m => keepK e [2] fun vs => unc vs fun x0 vs => unz vs (Q86_2 x0 m)) (blkK 0 (fun e m => keepK e [2] fun vs => unc vs fun x0 vs => unz vs (Q86_2 x0 m)) (endK f86 m0))
theorem g86 (call : CL) (n : Nat) (m0 : Mem) (b86_2 : C) (y0 y1 : AV) (m : Mem) : evK call n (c86 b86_0 b86_1 b86_2) [(0, y0), (1, y1)] m (fun e m => endK f86 m0 .nrm e m) (endK f86 m0) = G86 call n m0 (fun x0 m => evK call n b86_2 [(2, x0)] m (fun e m => endK f86 m0 .nrm e m) (endK f86 m0)) y0 y1 m := by kernel_rfl
def S86 (call : CL) (n : Nat) (m0 : Mem) (y0 y1 : AV) : Rho := G86 call n m0 (S86_2 call n m0) y0 y1 { m0 with bad := none }
theorem s86 (call : CL) (n : Nat) (m0 : Mem) (y0 y1 : AV) : bodyK call n f86 [y0, y1] m0 = S86 call n m0 y0 y1 :=
  have h : bodyK call n f86 [y0, y1] m0 = G86 call n m0 (d86_2 call n m0) y0 y1 { m0 with bad := none } := Eq.mp (by kernel_rfl) (g86 call n m0 b86_2 y0 y1 { m0 with bad := none })
  by rw [l86_2] at h; exact h
def F86 : SF := fun call n vs m0 => unc vs fun x0 vs => unc vs fun x1 vs => unz vs (S86 call n m0 x0 x1)
theorem F86_ok {orc : List AV → Mem → Option (AV × Mem)} : SOk 86 { f86 with orc := orc } F86 := by
  intro call n vs m0 ho r h0
  simp only [F86] at h0
  obtain ⟨y0, v0, rfl, h1⟩ := unc_some h0
  obtain ⟨y1, v1, rfl, h2⟩ := unc_some h1
  obtain ⟨rfl, hz⟩ := unz_some h2
  exact bodyK_le ho rfl r (Eq.mp (by kernel_rfl) ((s86 call n m0 y0 y1).trans hz))

-- cmp.isNaN[int]
def G88 (call : CL) (n : Nat) (m0 : Mem) (y0 : AV) (m : Mem) : Rho :=
  binK .neq y0 y0 fun a0 =>
  retK false false m0 [a0] m
theorem g88 (call : CL) (n : Nat) (m0 : Mem) (y0 : AV) (m : Mem) : evK call n b88 [(0, y0)] m (fun e m => endK f88 m0 .nrm e m) (endK f88 m0) = G88 call n m0 y0 m := by kernel_rfl
def S88 (call : CL) (n : Nat) (m0 : Mem) (y0 : AV) : Rho := G88 call n m0 y0 { m0 with bad := none }
theorem s88 (call : CL) (n : Nat) (m0 : Mem) (y0 : AV) : bodyK call n f88 [y0] m0 = S88 call n m0 y0 :=
  have h : bodyK call n f88 [y0] m0 = G88 call n m0 y0 { m0 with bad := none } := Eq.mp (by kernel_rfl) (g88 call n m0 y0 { m0 with bad := none })
  h
def F88 : SF := fun call n vs m0 => unc vs fun x0 vs => unz vs (S88 call n m0 x0)
theorem F88_ok {orc : List AV → Mem → Option (AV × Mem)} : SOk 88 { f88 with orc := orc } F88 := by
  intro call n vs m0 ho r h0
  simp only [F88] at h0
  obtain ⟨y0, v0, rfl, h1⟩ := unc_some h0
  obtain ⟨rfl, hz⟩ := unz_some h1
  exact bodyK_le ho rfl r (Eq.mp (by kernel_rfl) ((s88 call n m0 y0).trans hz))

-- slices.IndexFunc[[][2]int,[2]int]
def G90_3 (call : CL) (n : Nat) (m0 : Mem) (m : Mem) : Rho :=
  retK false false m0 [(.int .i64 (-1))] m
theorem g90_3 (call : CL) (n : Nat) (m0 : Mem) (m : Mem) : evK call n b90_3 [] m (fun e m => endK f90 m0 .nrm e m) (endK f90 m0) = G90_3 call n m0 m := by kernel_rfl
def k90_3 (call : CL) (n : Nat) (m0 : Mem) : KN := (fun e m => endK f90 m0 .nrm e m)
def x90_3 (call : CL) (n : Nat) (m0 : Mem) : KX := (endK f90 m0)
def S90_3 (call : CL) (n : Nat) (m0 : Mem) (m : Mem) : Rho := G90_3 call n m0 m
def d90_3 (call : CL) (n : Nat) (m0 : Mem) (m : Mem) : Rho := evK call n b90_3 [] m (k90_3 call n m0) (x90_3 call n m0)
theorem l90_3 {call : CL} {n : Nat} {m0 : Mem} : d90_3 call n m0 = S90_3 call n m0 := by
  funext m
  have h : d90_3 call n m0 m = G90_3 call n m0 m := Eq.mp (by kernel_rfl) (g90_3 call n m0 m)
  exact h
def G90_0 (call : CL) (n : Nat) (kn : KN) (kx : KX) (y0 y1 y2 y3 : AV) (m : Mem) : Rho :=
  binK .add y3 (.int .i64 1) fun a0 =>
  kn [(0, y0), (1, y1), (7, y2), (8, a0)] m
theorem g90_0 (call : CL) (n : Nat) (kn : KN) (kx : KX) (y0 y1 y2 y3 : AV) (m : Mem) : evK call n b90_0 [(0, y0), (1, y1), (7, y2), (8, y3)] m kn kx = G90_0 call n kn kx y0 y1 y2 y3 m := by kernel_rfl
def k90_0 (call : CL) (n : Nat) (kn : KN) (kx : KX) : KN := kn
def x90_0 (call : CL) (n : Nat) (kn : KN) (kx : KX) : KX := kx
def S90_0 (call : CL) (n : Nat) (kn : KN) (kx : KX) (y0 y1 y2 y3 : AV) (m : Mem) : Rho := G90_0 call n kn kx y0 y1 y2 y3 m
def d90_0 (call : CL) (n : Nat) (kn : KN) (kx : KX) (y0 y1 y2 y3 : AV) (m : Mem) : Rho := evK call n b90_0 [(0, y0), (1, y1), (7, y2), (8, y3)] m (k90_0 call n kn kx) (x90_0 call n kn kx)
theorem l90_0 {call : CL} {n : Nat} {kn : KN} {kx : KX} : d90_0 call n kn kx = S90_0 call n kn kx := by
  funext y0 y1 y2 y3 m
  have h : d90_0 call n kn kx y0 y1 y2 y3 m = G90_0 call n kn kx y0 y1 y2 y3 m := Eq.mp (by kernel_rfl) (g90_0 call n kn kx y0 y1 y2 y3 m)
  exact h
def G90_1 (call : CL) (n : Nat) (kn : KN) (kx : KX) (Q90_0 : Y4) (y0 y1 y2 y3 : AV) (m : Mem) : Rho :=
  vK (aIndexAddr m 2 y0 y3) m fun a0 m1 =>
  loadK (some 2) a0 m1 fun a2 m3 =>
  callK call y1 false [a2] m3 fun a4 m5 =>
  condK a4
  (kx .ret [(4, y3)] m5)
  (Q90_0 y0 y1 y2 y3 m5)
theorem g90_1 (call : CL) (n : Nat) (kn : KN) (kx : KX) (b90_0 : C) (y0 y1 y2 y3 : AV) (m : Mem) : evK call n (c90_1 b90_0) [(0, y0), (1, y1), (7, y2), (8, y3)] m kn kx = G90_1 call n kn kx (fun x0 x1 x2 x3 m => evK call n b90_0 [(0, x0), (1, x1), (7, x2), (8, x3)] m kn kx) y0 y1 y2 y3 m := by kernel_rfl
def k90_1 (call : CL) (n : Nat) (kn : KN) (kx : KX) : KN := kn
def x90_1 (call : CL) (n : Nat) (kn : KN) (kx : KX) : KX := kx
def S90_1 (call : CL) (n : Nat) (kn : KN) (kx : KX) (y0 y1 y2 y3 : AV) (m : Mem) : Rho := G90_1 call n kn kx (S90_0 call n kn kx) y0 y1 y2 y3 m
def d90_1 (call : CL) (n : Nat) (kn : KN) (kx : KX) (y0 y1 y2 y3 : AV) (m : Mem) : Rho := evK call n b90_1 [(0, y0), (1, y1), (7, y2), (8, y3)] m (k90_1 call n kn kx) (x90_1 call n kn kx)
theorem l90_1 {call : CL} {n : Nat} {kn : KN} {kx : KX} : d90_1 call n kn kx = S90_1 call n kn kx := by
  funext y0 y1 y2 y3 m
  have h : d90_1 call n kn kx y0 y1 y2 y3 m = G90_1 call n kn kx (d90_0 call n kn kx) y0 y1 y2 y3 m := Eq.mp (by kernel_rfl) (g90_1 call n kn kx b90_0 y0 y1 y2 y3 m)
  rw [l90_0] at h; exact h
def G90_2 (call : CL) (n : Nat) (kn : KN) (kx : KX) (Q90_1 : Y4) (y0 y1 y2 y3 : AV) (m : Mem) : Rho :=
  binK .lss y3 y2 fun a0 =>
  condK a0
  (Q90_1 y0 y1 y2 y3 m)
  (kx (.ext 0) [(0, y0), (1, y1), (7, y2), (8, y3), (9, a0)] m)
theorem g90_2 (call : CL) (n : Nat) (kn : KN) (kx : KX) (b90_1 : C) (y0 y1 y2 y3 : AV) (m : Mem) : evK call n (c90_2 b90_1) [(0, y0), (1, y1), (7, y2), (8, y3)] m kn kx = G90_2 call n kn kx (fun x0 x1 x2 x3 m => evK call n b90_1 [(0, x0), (1, x1), (7, x2), (8, x3)] m kn kx) y0 y1 y2 y3 m := by kernel_rfl
def S90_2 (call : CL) (n : Nat) (kn : KN) (kx : KX) (y0 y1 y2 y3 : AV) (m : Mem) : Rho := G90_2 call n kn kx (S90_1 call n kn kx) y0 y1 y2 y3 m
def d90_2 (call : CL) (n : Nat) (kn : KN) (kx : KX) (y0 y1 y2 y3 : AV) (m : Mem) : Rho := evK call n b90_2 [(0, y0), (1, y1), (7, y2), (8, y3)] m kn kx
theorem l90_2 {call : CL} {n : Nat} : d90_2 call n = S90_2 call n := by
  funext kn kx y0 y1 y2 y3 m
  have h : d90_2 call n kn kx y0 y1 y2 y3 m = G90_2 call n kn kx (d90_1 call n kn kx) y0 y1 y2 y3 m := Eq.mp (by kernel_rfl) (g90_2 call n kn kx b90_1 y0 y1 y2 y3 m)
  rw [l90_1] at h; exact h
def G90 (call : CL) (n : Nat) (m0 : Mem) (B90_2 : KN → KX → Y4) (Q90_3 : Y0) (y0 y1 : AV) (m : Mem) : Rho :=
  vK (aLen m 1 y0) m fun a0 m1 =>
  loopV [0, 1, 7, 8] none (fun vs m kn kx => unc vs fun x0 vs => unc vs fun x1 vs => unc vs fun x2 vs => unc vs fun x3 vs => unz vs (B90_2 kn kx x0 x1 x2 x3 m)) (blkK 0 (fun e m => keepK e [] fun vs => unz vs (Q90_3 m)) (endK f90 m0)) n [y0, y1, a0, (.int .i64 0)] m1
theorem g90 (call : CL) (n : Nat) (m0 : Mem) (b90_2 : C) (b90_3 : C) (y0 y1 : AV) (m : Mem) : evK call n (c90 b90_2 b90_3) [(0, y0), (1, y1)] m (fun e m => endK f90 m0 .nrm e m) (endK f90 m0) = G90 call n m0 (fun kn kx x0 x1 x2 x3 m => evK call n b90_2 [(0, x0), (1, x1), (7, x2), (8, x3)] m kn kx) (fun m => evK call n b90_3 [] m (fun e m => endK f90 m0 .nrm e m) (endK f90 m0)) y0 y1 m := by kernel_rfl
def S90 (call : CL) (n : Nat) (m0 : Mem) (y0 y1 : AV) : Rho := G90 call n m0 (S90_2 call n) (S90_3 call n m0) y0 y1 { m0 with bad := none }
theorem s90 (call : CL) (n : Nat) (m0 : Mem) (y0 y1 : AV) : bodyK call n f90 [y0, y1] m0 = S90 call n m0 y0 y1 :=
  have h : bodyK call n f90 [y0, y1] m0 = G90 call n m0 (d90_2 call n) (d90_3 call n m0) y0 y1 { m0 with bad := none } := Eq.mp (by kernel_rfl) (g90 call n m0 b90_2 b90_3 y0 y1 { m0 with bad := none })
  by rw [l90_2, l90_3] at h; exact h
def F90 : SF := fun call n vs m0 => unc vs fun x0 vs => unc vs fun x1 vs => unz vs (S90 call n m0 x0 x1)
theorem F90_ok {orc : List AV → Mem → Option (AV × Mem)} : SOk 90 { f90 with orc := orc } F90 := by
  intro call n vs m0 ho r h0
  simp only [F90] at h0
  obtain ⟨y0, v0, rfl, h1⟩ := unc_some h0
  obtain ⟨y1, v1, rfl, h2⟩ := unc_some h1
  obtain ⟨rfl, hz⟩ := unz_some h2
  exact bodyK_le ho rfl r (Eq.mp (by kernel_rfl) ((s90 call n m0 y0 y1).trans hz))

-- slices.IndexFunc[[]int,int]
def G91_3 (call : CL) (n : Nat) (m0 : Mem) (m : Mem) : Rho :=
  retK false false m0 [(.int .i64 (-1))] m
theorem g91_3 (call : CL) (n : Nat) (m0 : Mem) (m : Mem) : evK call n b91_3 [] m (fun e m => endK f91 m0 .nrm e m) (endK f91 m0) = G91_3 call n m0 m := by kernel_rfl
def k91_3 (call : CL) (n : Nat) (m0 : Mem) : KN := (fun e m => endK f91 m0 .nrm e m)
def x91_3 (call : CL) (n : Nat) (m0 : Mem) : KX := (endK f91 m0)
def S91_3 (call : CL) (n : Nat) (m0 : Mem) (m : Mem) : Rho := G91_3 call n m0 m
def d91_3 (call : CL) (n : Nat) (m0 : Mem) (m : Mem) : Rho := evK call n b91_3 [] m (k91_3 call n m0) (x91_3 call n m0)
theorem l91_3 {call : CL} {n : Nat} {m0 : Mem} : d91_3 call n m0 = S91_3 call n m0 := by
  funext m
  have h : d91_3 call n m0 m = G91_3 call n m0 m := Eq.mp (by kernel_rfl) (g91_3 call n m0 m)
  exact h
def G91_0 (call : CL) (n : Nat) (kn : KN) (kx : KX) (y0 y1 y2 y3 : AV) (m : Mem) : Rho :=
  binK .add y3 (.int .i64 1) fun a0 =>
  kn [(0, y0), (1, y1), (7, y2), (8, a0)] m
theorem g91_0 (call : CL) (n : Nat) (kn : KN) (kx : KX) (y0 y1 y2 y3 : AV) (m : Mem) : evK call n b91_0 [(0, y0), (1, y1), (7, y2), (8, y3)] m kn kx = G91_0 call n kn kx y0 y1 y2 y3 m := by kernel_rfl
def k91_0 (call : CL) (n : Nat) (kn : KN) (kx : KX) : KN := kn
def x91_0 (call : CL) (n : Nat) (kn : KN) (kx : KX) : KX := kx
def S91_0 (call : CL) (n : Nat) (kn : KN) (kx : KX) (y0 y1 y2 y3 : AV) (m : Mem) : Rho := G91_0 call n kn kx y0 y1 y2 y3 m
def d91_0 (call : CL) (n : Nat) (kn : KN) (kx : KX) (y0 y1 y2 y3 : AV) (m : Mem) : Rho := evK call n b91_0 [(0, y0), (1, y1), (7, y2), (8, y3)] m (k91_0 call n kn kx) (x91_0 call n kn kx)
theorem l91_0 {call : CL} {n : Nat} {kn : KN} {kx : KX} : d91_0 call n kn kx = S91_0 call n kn kx := by
  funext y0 y1 y2 y3 m
  have h : d91_0 call n kn kx y0 y1 y2 y3 m = G91_0 call n kn kx y0 y1 y2 y3 m := Eq.mp (by kernel_rfl) (g91_0 call n kn kx y0 y1 y2 y3 m)
  exact h
def G91_1 (call : CL) (n : Nat) (kn : KN) (kx : KX) (Q91_0 : Y4) (y0 y1 y2 y3 : AV) (m : Mem) : Rho :=
  vK (aIndexAddr m 1 y0 y3) m fun a0 m1 =>
  loadK none a0 m1 fun a2 m3 =>
  callK call y1 false [a2] m3 fun a4 m5 =>
  condK a4
  (kx .ret [(4, y3)] m5)
  (Q91_0 y0 y1 y2 y3 m5)
theorem g91_1 (call : CL) (n : Nat) (kn : KN) (kx : KX) (b91_0 : C) (y0 y1 y2 y3 : AV) (m : Mem) : evK call n (c91_1 b91_0) [(0, y0), (1, y1), (7, y2), (8, y3)] m kn kx = G91_1 call n kn kx (fun x0 x1 x2 x3 m => evK call n b91_0 [(0, x0), (1, x1), (7, x2), (8, x3)] m kn kx) y0 y1 y2 y3 m := by kernel_rfl
def k91_1 (call : CL) (n : Nat) (kn : KN) (kx : KX) : KN := kn
def x91_1 (call : CL) (n : Nat) (kn : KN) (kx : KX) : KX := kx
def S91_1 (call : CL) (n : Nat) (kn : KN) (kx : KX) (y0 y1 y2 y3 : AV) (m : Mem) : Rho := G91_1 call n kn kx (S91_0 call n kn kx) y0 y1 y2 y3 m
def d91_1 (call : CL) (n : Nat) (kn : KN) (kx : KX) (y0 y1 y2 y3 : AV) (m : Mem) : Rho := evK call n b91_1 [(0, y0), (1, y1), (7, y2), (8, y3)] m (k91_1 call n kn kx) (x91_1 call n kn kx)
theorem l91_1 {call : CL} {n : Nat} {kn : KN} {kx : KX} : d91_1 call n kn kx = S91_1 call n kn kx := by
  funext y0 y1 y2 y3 m
  have h : d91_1 call n kn kx y0 y1 y2 y3 m = G91_1 call n kn kx (d91_0 call n kn kx) y0 y1 y2 y3 m := Eq.mp (by kernel_rfl) (g91_1 call n kn kx b91_0 y0 y1 y2 y3 m)
  rw [l91_0] at h; exact h
def G91_2 (call : CL) (n : Nat) (kn : KN) (kx : KX) (Q91_1 : Y4) (y0 y1 y2 y3 : AV) (m : Mem) : Rho :=
  binK .lss y3 y2 fun a0 =>
  condK a0
  (Q91_1 y0 y1 y2 y3 m)
  (kx (.ext 0) [(0, y0), (1, y1), (7, y2), (8, y3), (9, a0)] m)
theorem g91_2 (call : CL) (n : Nat) (kn : KN) (kx : KX) (b91_1 : C) (y0 y1 y2 y3 : AV) (m : Mem) : evK call n (c91_2 b91_1) [(0, y0), (1, y1), (7, y2), (8, y3)] m kn kx = G91_2 call n kn kx (fun x0 x1 x2 x3 m => evK call n b91_1 [(0, x0), (1, x1), (7, x2), (8, x3)] m kn kx) y0 y1 y2 y3 m := by kernel_rfl
def S91_2 (call : CL) (n : Nat) (kn : KN) (kx : KX) (y0 y1 y2 y3 : AV) (m : Mem) : Rho := G91_2 call n kn kx (S91_1 call n kn kx) y0 y1 y2 y3 m
def d91_2 (call : CL) (n : Nat) (kn : KN) (kx : KX) (y0 y1 y2 y3 : AV) (m : Mem) : Rho := evK call n b91_2 [(0, y0), (1, y1), (7, y2), (8, y3)] m kn kx
theorem l91_2 {call : CL} {n : Nat} : d91_2 call n = S91_2 call n := by
  funext kn kx y0 y1 y2 y3 m
  have h : d91_2 call n kn kx y0 y1 y2 y3 m = G91_2 call n kn kx (d91_1 call n kn kx) y0 y1 y2 y3 m := Eq.mp (by kernel_rfl) (g91_2 call n kn kx b91_1 y0 y1 y2 y3 m)
  rw [l91_1] at h; exact h
def G91 (call : CL) (n : Nat) (m0 : Mem) (B91_2 : KN → KX → Y4) (Q91_3 : Y0) (y0 y1 : AV) (m : Mem) : Rho :=
  vK (aLen m 1 y0) m fun a0 m1 =>
  loopV [0, 1, 7, 8] none (fun vs m kn kx => unc vs fun x0 vs => unc vs fun x1 vs => unc vs fun x2 vs => unc vs fun x3 vs => unz vs (B91_2 kn kx x0 x1 x2 x3 m)) (blkK 0 (fun e m => keepK e [] fun vs => unz vs (Q91_3 m)) (endK f91 m0)) n [y0, y1, a0, (.int .i64 0)] m1
theorem g91 (call : CL) (n : Nat) (m0 : Mem) (b91_2 : C) (b91_3 : C) (y0 y1 : AV) (m : Mem) : evK call n (c91 b91_2 b91_3) [(0, y0), (1, y1)] m (fun e m => endK f91 m0 .nrm e m) (endK f91 m0) = G91 call n m0 (fun kn kx x0 x1 x2 x3 m => evK call n b91_2 [(0, x0), (1, x1), (7, x2), (8, x3)] m kn kx) (fun m => evK call n b91_3 [] m (fun e m => endK f91 m0 .nrm e m) (endK f91 m0)) y0 y1 m := by kernel_rfl
def S91 (call : CL) (n : Nat) (m0 : Mem) (y0 y1 : AV) : Rho := G91 call n m0 (S91_2 call n) (S91_3 call n m0) y0 y1 { m0 with bad := none }
theorem s91 (call : CL) (n : Nat) (m0 : Mem) (y0 y1 : AV) : bodyK call n f91 [y0, y1] m0 = S91 call n m0 y0 y1 :=
  have h : bodyK call n f91 [y0, y1] m0 = G91 call n m0 (d91_2 call n) (d91_3 call n m0) y0 y1 { m0 with bad := none } := Eq.mp (by kernel_rfl) (g91 call n m0 b91_2 b91_3 y0 y1 { m0 with bad := none })
  by rw [l91_2, l91_3] at h; exact h
def F91 : SF := fun call n vs m0 => unc vs fun x0 vs => unc vs fun x1 vs => unz vs (S91 call n m0 x0 x1)
theorem F91_ok {orc : List AV → Mem → Option (AV × Mem)} : SOk 91 { f91 with orc := orc } F91 := by
  intro call n vs m0 ho r h0
  simp only [F91] at h0
  obtain ⟨y0, v0, rfl, h1⟩ := unc_some h0
  obtain ⟨y1, v1, rfl, h2⟩ := unc_some h1
  obtain ⟨rfl, hz⟩ := unz_some h2
  exact bodyK_le ho rfl r (Eq.mp (by kernel_rfl) ((s91 call n m0 y0 y1).trans hz))

end
end Go.Proofs.P17
