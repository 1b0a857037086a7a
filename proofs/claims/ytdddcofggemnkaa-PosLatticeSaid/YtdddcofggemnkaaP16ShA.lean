import Derived.Test.YtdddcofggemnkaaP16Fns
import Derived.Test.YtdddcofggemnkaaAmK
namespace Go.Proofs.P16
set_option linter.all false
open Go Go.Am
noncomputable section
abbrev CL := Nat → List AV → Mem → Rho
abbrev Y0 := Mem → Rho
abbrev Y1 := AV → Y0
abbrev Y2 := AV → Y1
abbrev Y3 := AV → Y2
abbrev Y4 := AV → Y3
abbrev Y5 := AV → Y4
abbrev Y6 := AV → Y5
abbrev Y7 := AV → Y6
abbrev Y8 := AV → Y7
abbrev Y9 := AV → Y8
abbrev Y10 := AV → Y9
abbrev Y11 := AV → Y10
abbrev Y12 := AV → Y11

-- resolvent/resolventlaw16.PosLattice X
def G5_7 (call : CL) (n : Nat) (kn : KN) (kx : KX) (y0 y1 y2 y3 : AV) (m : Mem) : Rho :=
  loadK (some 2) y1 m fun a0 m1 =>
  loadK (some 2) y2 m1 fun a2 m3 =>
  callK call (.func 23 [] []) false [a0, a2] m3 fun a4 m5 =>
  callK call (.func 24 [] []) false [a4, y0] m5 fun a6 m7 =>
  newK [(.list .full 0 []), (.bool false)] m7 fun a8 m9 =>
  storeK 2 a8 a6 m9 fun a10 m11 =>
  loadK (some 2) y1 m11 fun a12 m13 =>
  loadK (some 2) y3 m13 fun a14 m15 =>
  callK call (.func 11 [] []) false [a12, a14] m15 fun a16 m17 =>
  loadK (some 2) y1 m17 fun a18 m19 =>
  callK call (.func 22 [] []) false [a16, a18] m19 fun a20 m21 =>
  gDK a20 true (fun k => loadK (some 2) y3 m21 fun a22 m23 =>
  k a22 m23) m21 fun r24 a25 m26 =>
  gDK a20 true (fun k => k y0 m26) m26 fun r27 a28 m29 =>
  gDK a20 true (fun k => callK call (.func 24 [] []) false [a25, a28] m29 fun a30 m31 =>
  k a30 m31) m29 fun r32 a33 m34 =>
  gDK a20 true (fun k => loadK (some 2) y3 m34 fun a35 m36 =>
  k a35 m36) m34 fun r37 a38 m39 =>
  gDK a20 true (fun k => callK call (.func 22 [] []) false [a33, a38] m39 fun a40 m41 =>
  k a40 m41) m39 fun r42 a43 m44 =>
  pickK a20 (some a43) (some (.bool false)) fun a45 =>
  gDK a45 true (fun k => loadK (some 2) y3 m44 fun a46 m47 =>
  k a46 m47) m44 fun r48 a49 m50 =>
  gDK a45 true (fun k => loadK (some 2) a8 m50 fun a51 m52 =>
  k a51 m52) m50 fun r53 a54 m55 =>
  gDK a45 true (fun k => callK call (.func 11 [] []) false [a49, a54] m55 fun a56 m57 =>
  k a56 m57) m55 fun r58 a59 m60 =>
  gDK a45 true (fun k => loadK (some 2) y3 m60 fun a61 m62 =>
  k a61 m62) m60 fun r63 a64 m65 =>
  gDK a45 true (fun k => callK call (.func 22 [] []) false [a59, a64] m65 fun a66 m67 =>
  k a66 m67) m65 fun r68 a69 m70 =>
  pickK a45 (some a69) (some (.bool false)) fun a71 =>
  gDK a71 true (fun k => loadK (some 2) y1 m70 fun a72 m73 =>
  k a72 m73) m70 fun r74 a75 m76 =>
  gDK a71 true (fun k => k y0 m76) m76 fun r77 a78 m79 =>
  gDK a71 true (fun k => callK call (.func 19 [] []) false [a75, a78] m79 fun a80 m81 =>
  k a80 m81) m79 fun r82 a83 m84 =>
  gDK a71 true (fun k => loadK (some 2) y1 m84 fun a85 m86 =>
  k a85 m86) m84 fun r87 a88 m89 =>
  gDK a71 true (fun k => k y0 m89) m89 fun r90 a91 m92 =>
  gDK a71 true (fun k => callK call (.func 25 [] []) false [a91] m92 fun a93 m94 =>
  k a93 m94) m92 fun r95 a96 m97 =>
  gDK a71 true (fun k => callK call (.func 11 [] []) false [a88, a96] m97 fun a98 m99 =>
  k a98 m99) m97 fun r100 a101 m102 =>
  gDK a71 true (fun k => loadK (some 2) y1 m102 fun a103 m104 =>
  k a103 m104) m102 fun r105 a106 m107 =>
  gDK a71 true (fun k => callK call (.func 22 [] []) false [a101, a106] m107 fun a108 m109 =>
  k a108 m109) m107 fun r110 a111 m112 =>
  gDK a71 true (fun k => eqvK ⟨[.b], false⟩ false a83 a111 fun a113 =>
  k a113 m112) m112 fun r114 a115 m116 =>
  pickK a71 (some a115) (some (.bool false)) fun a117 =>
  gDK a117 true (fun k => callK call (.func 15 [] []) false [] m116 fun a118 m119 =>
  k a118 m119) m116 fun r120 a121 m122 =>
  pickK a117 (some a121) (some (.bool false)) fun a123 =>
  cond (stayK [m11, m17, m21, m34, m44, m60, m70, m84, m97, m102, m112, m122] [(fun m => m.load (some 2) y1, a18, 0, 2, true), (fun m => m.load (some 2) y3, a38, 2, 2, r37), (fun m => m.load (some 2) y3, a64, 4, 2, r63), (fun m => m.load (some 2) y1, a88, 6, 3, r87), (fun m => m.load (some 2) y1, a106, 6, 4, r105)]) (kx .ret [(4, a123)] m122) none
theorem g5_7 (call : CL) (n : Nat) (kn : KN) (kx : KX) (y0 y1 y2 y3 : AV) (m : Mem) : evK call n b5_7 [(1, y0), (8, y1), (9, y2), (11, y3)] m kn kx = G5_7 call n kn kx y0 y1 y2 y3 m := by kernel_rfl
def k5_7 (call : CL) (n : Nat) (kn : KN) (kx : KX) : KN := kn
def x5_7 (call : CL) (n : Nat) (kn : KN) (kx : KX) : KX := kx
def S5_7 (call : CL) (n : Nat) (kn : KN) (kx : KX) (y0 y1 y2 y3 : AV) (m : Mem) : Rho := G5_7 call n kn kx y0 y1 y2 y3 m
def d5_7 (call : CL) (n : Nat) (kn : KN) (kx : KX) (y0 y1 y2 y3 : AV) (m : Mem) : Rho := evK call n b5_7 [(1, y0), (8, y1), (9, y2), (11, y3)] m (k5_7 call n kn kx) (x5_7 call n kn kx)
theorem l5_7 {call : CL} {n : Nat} {kn : KN} {kx : KX} : d5_7 call n kn kx = S5_7 call n kn kx := by
  funext y0 y1 y2 y3 m
  have h : d5_7 call n kn kx y0 y1 y2 y3 m = G5_7 call n kn kx y0 y1 y2 y3 m := Eq.mp (by kernel_rfl) (g5_7 call n kn kx y0 y1 y2 y3 m)
  exact h
def G5_3 (call : CL) (n : Nat) (kn : KN) (kx : KX) (y0 y1 y2 y3 y4 y5 : AV) (m : Mem) : Rho :=
  binK .add y5 (.int .i64 1) fun a0 =>
  kn [(1, y0), (8, y1), (9, y2), (11, y3), (12, y4), (13, a0)] m
theorem g5_3 (call : CL) (n : Nat) (kn : KN) (kx : KX) (y0 y1 y2 y3 y4 y5 : AV) (m : Mem) : evK call n b5_3 [(1, y0), (8, y1), (9, y2), (11, y3), (12, y4), (13, y5)] m kn kx = G5_3 call n kn kx y0 y1 y2 y3 y4 y5 m := by kernel_rfl
def k5_3 (call : CL) (n : Nat) (kn : KN) (kx : KX) : KN := kn
def x5_3 (call : CL) (n : Nat) (kn : KN) (kx : KX) : KX := kx
def S5_3 (call : CL) (n : Nat) (kn : KN) (kx : KX) (y0 y1 y2 y3 y4 y5 : AV) (m : Mem) : Rho := G5_3 call n kn kx y0 y1 y2 y3 y4 y5 m
def d5_3 (call : CL) (n : Nat) (kn : KN) (kx : KX) (y0 y1 y2 y3 y4 y5 : AV) (m : Mem) : Rho := evK call n b5_3 [(1, y0), (8, y1), (9, y2), (11, y3), (12, y4), (13, y5)] m (k5_3 call n kn kx) (x5_3 call n kn kx)
theorem l5_3 {call : CL} {n : Nat} {kn : KN} {kx : KX} : d5_3 call n kn kx = S5_3 call n kn kx := by
  funext y0 y1 y2 y3 y4 y5 m
  have h : d5_3 call n kn kx y0 y1 y2 y3 y4 y5 m = G5_3 call n kn kx y0 y1 y2 y3 y4 y5 m := Eq.mp (by kernel_rfl) (g5_3 call n kn kx y0 y1 y2 y3 y4 y5 m)
  exact h
def G5_4 (call : CL) (n : Nat) (kn : KN) (kx : KX) (Q5_3 : Y6) (y0 y1 y2 y3 y4 y5 : AV) (m : Mem) : Rho :=
  vK (aIndexAddr m 1 y4 y5) m fun a0 m1 =>
  loadK none a0 m1 fun a2 m3 =>
  binK .eql a2 y0 fun a4 =>
  condK a4
  (kx .ret [(4, (.bool false))] m3)
  (Q5_3 y0 y1 y2 y3 y4 y5 m3)
theorem g5_4 (call : CL) (n : Nat) (kn : KN) (kx : KX) (b5_3 : C) (y0 y1 y2 y3 y4 y5 : AV) (m : Mem) : evK call n (c5_4 b5_3) [(1, y0), (8, y1), (9, y2), (11, y3), (12, y4), (13, y5)] m kn kx = G5_4 call n kn kx (fun x0 x1 x2 x3 x4 x5 m => evK call n b5_3 [(1, x0), (8, x1), (9, x2), (11, x3), (12, x4), (13, x5)] m kn kx) y0 y1 y2 y3 y4 y5 m := by kernel_rfl
def k5_4 (call : CL) (n : Nat) (kn : KN) (kx : KX) : KN := kn
def x5_4 (call : CL) (n : Nat) (kn : KN) (kx : KX) : KX := kx
def S5_4 (call : CL) (n : Nat) (kn : KN) (kx : KX) (y0 y1 y2 y3 y4 y5 : AV) (m : Mem) : Rho := G5_4 call n kn kx (S5_3 call n kn kx) y0 y1 y2 y3 y4 y5 m
def d5_4 (call : CL) (n : Nat) (kn : KN) (kx : KX) (y0 y1 y2 y3 y4 y5 : AV) (m : Mem) : Rho := evK call n b5_4 [(1, y0), (8, y1), (9, y2), (11, y3), (12, y4), (13, y5)] m (k5_4 call n kn kx) (x5_4 call n kn kx)
theorem l5_4 {call : CL} {n : Nat} {kn : KN} {kx : KX} : d5_4 call n kn kx = S5_4 call n kn kx := by
  funext y0 y1 y2 y3 y4 y5 m
  have h : d5_4 call n kn kx y0 y1 y2 y3 y4 y5 m = G5_4 call n kn kx (d5_3 call n kn kx) y0 y1 y2 y3 y4 y5 m := Eq.mp (by kernel_rfl) (g5_4 call n kn kx b5_3 y0 y1 y2 y3 y4 y5 m)
  rw [l5_3] at h; exact h
def G5_5 (call : CL) (n : Nat) (kn : KN) (kx : KX) (Q5_4 : Y6) (y0 y1 y2 y3 y4 y5 : AV) (m : Mem) : Rho :=
  vK (aLen m 1 y4) m fun a0 m1 =>
  binK .lss y5 a0 fun a2 =>
  condK a2
  (Q5_4 y0 y1 y2 y3 y4 y5 m1)
  (kx (.ext 0) [(1, y0), (8, y1), (9, y2), (11, y3), (12, y4), (13, y5), (151, a2)] m1)
theorem g5_5 (call : CL) (n : Nat) (kn : KN) (kx : KX) (b5_4 : C) (y0 y1 y2 y3 y4 y5 : AV) (m : Mem) : evK call n (c5_5 b5_4) [(1, y0), (8, y1), (9, y2), (11, y3), (12, y4), (13, y5)] m kn kx = G5_5 call n kn kx (fun x0 x1 x2 x3 x4 x5 m => evK call n b5_4 [(1, x0), (8, x1), (9, x2), (11, x3), (12, x4), (13, x5)] m kn kx) y0 y1 y2 y3 y4 y5 m := by kernel_rfl
def S5_5 (call : CL) (n : Nat) (kn : KN) (kx : KX) (y0 y1 y2 y3 y4 y5 : AV) (m : Mem) : Rho := G5_5 call n kn kx (S5_4 call n kn kx) y0 y1 y2 y3 y4 y5 m
def d5_5 (call : CL) (n : Nat) (kn : KN) (kx : KX) (y0 y1 y2 y3 y4 y5 : AV) (m : Mem) : Rho := evK call n b5_5 [(1, y0), (8, y1), (9, y2), (11, y3), (12, y4), (13, y5)] m kn kx
theorem l5_5 {call : CL} {n : Nat} : d5_5 call n = S5_5 call n := by
  funext kn kx y0 y1 y2 y3 y4 y5 m
  have h : d5_5 call n kn kx y0 y1 y2 y3 y4 y5 m = G5_5 call n kn kx (d5_4 call n kn kx) y0 y1 y2 y3 y4 y5 m := Eq.mp (by kernel_rfl) (g5_5 call n kn kx b5_4 y0 y1 y2 y3 y4 y5 m)
  rw [l5_4] at h; exact h
def G5_8 (call : CL) (n : Nat) (kn : KN) (kx : KX) (B5_5 : KN → KX → Y6) (Q5_7 : Y4) (y0 y1 y2 : AV) (m : Mem) : Rho :=
  loadK (some 2) y1 m fun a0 m1 =>
  callK call (.func 24 [] []) false [a0, y0] m1 fun a2 m3 =>
  newK [(.list .full 0 []), (.bool false)] m3 fun a4 m5 =>
  storeK 2 a4 a2 m5 fun a6 m7 =>
  loadK (some 2) a4 m7 fun a8 m9 =>
  callK call (.func 17 [] []) false [a8] m9 fun a10 m11 =>
  loopV [1, 8, 9, 11, 12, 13] none (fun vs m kn kx => unc vs fun x0 vs => unc vs fun x1 vs => unc vs fun x2 vs => unc vs fun x3 vs => unc vs fun x4 vs => unc vs fun x5 vs => unz vs (B5_5 kn kx x0 x1 x2 x3 x4 x5 m)) (blkK 0 (fun e m => keepK e [1, 8, 9, 11] fun vs => unc vs fun x0 vs => unc vs fun x1 vs => unc vs fun x2 vs => unc vs fun x3 vs => unz vs (Q5_7 x0 x1 x2 x3 m)) kx) n [y0, y1, y2, a4, a10, (.int .i64 0)] m11
theorem g5_8 (call : CL) (n : Nat) (kn : KN) (kx : KX) (b5_5 : C) (b5_7 : C) (y0 y1 y2 : AV) (m : Mem) : evK call n (c5_8 b5_5 b5_7) [(1, y0), (8, y1), (9, y2)] m kn kx = G5_8 call n kn kx (fun kn kx x0 x1 x2 x3 x4 x5 m => evK call n b5_5 [(1, x0), (8, x1), (9, x2), (11, x3), (12, x4), (13, x5)] m kn kx) (fun x0 x1 x2 x3 m => evK call n b5_7 [(1, x0), (8, x1), (9, x2), (11, x3)] m kn kx) y0 y1 y2 m := by kernel_rfl
def k5_8 (call : CL) (n : Nat) (kn : KN) (kx : KX) : KN := kn
def x5_8 (call : CL) (n : Nat) (kn : KN) (kx : KX) : KX := kx
def S5_8 (call : CL) (n : Nat) (kn : KN) (kx : KX) (y0 y1 y2 : AV) (m : Mem) : Rho := G5_8 call n kn kx (S5_5 call n) (S5_7 call n kn kx) y0 y1 y2 m
def d5_8 (call : CL) (n : Nat) (kn : KN) (kx : KX) (y0 y1 y2 : AV) (m : Mem) : Rho := evK call n b5_8 [(1, y0), (8, y1), (9, y2)] m (k5_8 call n kn kx) (x5_8 call n kn kx)
theorem l5_8 {call : CL} {n : Nat} {kn : KN} {kx : KX} : d5_8 call n kn kx = S5_8 call n kn kx := by
  funext y0 y1 y2 m
  have h : d5_8 call n kn kx y0 y1 y2 m = G5_8 call n kn kx (d5_5 call n) (d5_7 call n kn kx) y0 y1 y2 m := Eq.mp (by kernel_rfl) (g5_8 call n kn kx b5_5 b5_7 y0 y1 y2 m)
  rw [l5_5, l5_7] at h; exact h
def G5_9 (call : CL) (n : Nat) (kn : KN) (kx : KX) (Q5_8 : Y3) (y0 y1 y2 y3 : AV) (m : Mem) : Rho :=
  loadK (some 2) y1 m fun a0 m1 =>
  loadK (some 2) y1 m1 fun a2 m3 =>
  loadK (some 2) y2 m3 fun a4 m5 =>
  callK call (.func 23 [] []) false [a2, a4] m5 fun a6 m7 =>
  callK call (.func 11 [] []) false [a0, a6] m7 fun a8 m9 =>
  loadK (some 2) y1 m9 fun a10 m11 =>
  callK call (.func 22 [] []) false [a8, a10] m11 fun a12 m13 =>
  unK .not a12 fun a14 =>
  gDK a14 false (fun k => loadK (some 2) y1 m13 fun a15 m16 =>
  k a15 m16) m13 fun r17 a18 m19 =>
  gDK a14 false (fun k => loadK (some 2) y1 m19 fun a20 m21 =>
  k a20 m21) m19 fun r22 a23 m24 =>
  gDK a14 false (fun k => loadK (some 2) y2 m24 fun a25 m26 =>
  k a25 m26) m24 fun r27 a28 m29 =>
  gDK a14 false (fun k => callK call (.func 11 [] []) false [a23, a28] m29 fun a30 m31 =>
  k a30 m31) m29 fun r32 a33 m34 =>
  gDK a14 false (fun k => callK call (.func 23 [] []) false [a18, a33] m34 fun a35 m36 =>
  k a35 m36) m34 fun r37 a38 m39 =>
  gDK a14 false (fun k => loadK (some 2) y1 m39 fun a40 m41 =>
  k a40 m41) m39 fun r42 a43 m44 =>
  gDK a14 false (fun k => callK call (.func 22 [] []) false [a38, a43] m44 fun a45 m46 =>
  k a45 m46) m44 fun r47 a48 m49 =>
  gDK a14 false (fun k => unK .not a48 fun a50 =>
  k a50 m49) m49 fun r51 a52 m53 =>
  pickK a14 (some (.bool true)) (some a52) fun a54 =>
  gDK a54 false (fun k => loadK (some 2) y1 m53 fun a55 m56 =>
  k a55 m56) m53 fun r57 a58 m59 =>
  gDK a54 false (fun k => loadK (some 2) y2 m59 fun a60 m61 =>
  k a60 m61) m59 fun r62 a63 m64 =>
  gDK a54 false (fun k => loadK (some 2) y3 m64 fun a65 m66 =>
  k a65 m66) m64 fun r67 a68 m69 =>
  gDK a54 false (fun k => callK call (.func 23 [] []) false [a63, a68] m69 fun a70 m71 =>
  k a70 m71) m69 fun r72 a73 m74 =>
  gDK a54 false (fun k => callK call (.func 11 [] []) false [a58, a73] m74 fun a75 m76 =>
  k a75 m76) m74 fun r77 a78 m79 =>
  gDK a54 false (fun k => loadK (some 2) y1 m79 fun a80 m81 =>
  k a80 m81) m79 fun r82 a83 m84 =>
  gDK a54 false (fun k => loadK (some 2) y2 m84 fun a85 m86 =>
  k a85 m86) m84 fun r87 a88 m89 =>
  gDK a54 false (fun k => callK call (.func 11 [] []) false [a83, a88] m89 fun a90 m91 =>
  k a90 m91) m89 fun r92 a93 m94 =>
  gDK a54 false (fun k => loadK (some 2) y1 m94 fun a95 m96 =>
  k a95 m96) m94 fun r97 a98 m99 =>
  gDK a54 false (fun k => loadK (some 2) y3 m99 fun a100 m101 =>
  k a100 m101) m99 fun r102 a103 m104 =>
  gDK a54 false (fun k => callK call (.func 11 [] []) false [a98, a103] m104 fun a105 m106 =>
  k a105 m106) m104 fun r107 a108 m109 =>
  gDK a54 false (fun k => callK call (.func 23 [] []) false [a93, a108] m109 fun a110 m111 =>
  k a110 m111) m109 fun r112 a113 m114 =>
  gDK a54 false (fun k => callK call (.func 22 [] []) false [a78, a113] m114 fun a115 m116 =>
  k a115 m116) m114 fun r117 a118 m119 =>
  gDK a54 false (fun k => unK .not a118 fun a120 =>
  k a120 m119) m119 fun r121 a122 m123 =>
  pickK a54 (some (.bool true)) (some a122) fun a124 =>
  gDK a124 false (fun k => loadK (some 2) y1 m123 fun a125 m126 =>
  k a125 m126) m123 fun r127 a128 m129 =>
  gDK a124 false (fun k => loadK (some 2) y1 m129 fun a130 m131 =>
  k a130 m131) m129 fun r132 a133 m134 =>
  gDK a124 false (fun k => callK call (.func 11 [] []) false [a128, a133] m134 fun a135 m136 =>
  k a135 m136) m134 fun r137 a138 m139 =>
  gDK a124 false (fun k => loadK (some 2) y1 m139 fun a140 m141 =>
  k a140 m141) m139 fun r142 a143 m144 =>
  gDK a124 false (fun k => callK call (.func 22 [] []) false [a138, a143] m144 fun a145 m146 =>
  k a145 m146) m144 fun r147 a148 m149 =>
  gDK a124 false (fun k => unK .not a148 fun a150 =>
  k a150 m149) m149 fun r151 a152 m153 =>
  pickK a124 (some (.bool true)) (some a152) fun a154 =>
  cond (stayK [m, m7, m9, m13, m34, m39, m49, m74, m79, m94, m109, m114, m119, m139, m149] [(fun m => m.load (some 2) y1, a0, 0, 2, true), (fun m => m.load (some 2) y1, a10, 0, 3, true), (fun m => m.load (some 2) y1, a18, 3, 2, r17), (fun m => m.load (some 2) y1, a43, 3, 3, r42), (fun m => m.load (some 2) y1, a58, 6, 2, r57), (fun m => m.load (some 2) y1, a83, 6, 3, r82), (fun m => m.load (some 2) y2, a88, 6, 3, r87), (fun m => m.load (some 2) y1, a98, 6, 4, r97), (fun m => m.load (some 2) y3, a103, 6, 4, r102), (fun m => m.load (some 2) y1, a143, 12, 2, r142)]) (condK a154
  (kx .ret [(4, (.bool false))] m153)
  (Q5_8 y0 y1 y2 m153)) none
theorem g5_9 (call : CL) (n : Nat) (kn : KN) (kx : KX) (b5_8 : C) (y0 y1 y2 y3 : AV) (m : Mem) : evK call n (c5_9 b5_8) [(1, y0), (8, y1), (9, y2), (10, y3)] m kn kx = G5_9 call n kn kx (fun x0 x1 x2 m => evK call n b5_8 [(1, x0), (8, x1), (9, x2)] m kn kx) y0 y1 y2 y3 m := by kernel_rfl
def k5_9 (call : CL) (n : Nat) (kn : KN) (kx : KX) : KN := kn
def x5_9 (call : CL) (n : Nat) (kn : KN) (kx : KX) : KX := kx
def S5_9 (call : CL) (n : Nat) (kn : KN) (kx : KX) (y0 y1 y2 y3 : AV) (m : Mem) : Rho := G5_9 call n kn kx (S5_8 call n kn kx) y0 y1 y2 y3 m
def d5_9 (call : CL) (n : Nat) (kn : KN) (kx : KX) (y0 y1 y2 y3 : AV) (m : Mem) : Rho := evK call n b5_9 [(1, y0), (8, y1), (9, y2), (10, y3)] m (k5_9 call n kn kx) (x5_9 call n kn kx)
theorem l5_9 {call : CL} {n : Nat} {kn : KN} {kx : KX} : d5_9 call n kn kx = S5_9 call n kn kx := by
  funext y0 y1 y2 y3 m
  have h : d5_9 call n kn kx y0 y1 y2 y3 m = G5_9 call n kn kx (d5_8 call n kn kx) y0 y1 y2 y3 m := Eq.mp (by kernel_rfl) (g5_9 call n kn kx b5_8 y0 y1 y2 y3 m)
  rw [l5_8] at h; exact h
def G5_10 (call : CL) (n : Nat) (kn : KN) (kx : KX) (Q5_9 : Y4) (y0 y1 y2 y3 : AV) (m : Mem) : Rho :=
  loadK (some 2) y1 m fun a0 m1 =>
  loadK (some 2) y2 m1 fun a2 m3 =>
  callK call (.func 11 [] []) false [a0, a2] m3 fun a4 m5 =>
  loadK (some 2) y2 m5 fun a6 m7 =>
  loadK (some 2) y1 m7 fun a8 m9 =>
  callK call (.func 11 [] []) false [a6, a8] m9 fun a10 m11 =>
  callK call (.func 22 [] []) false [a4, a10] m11 fun a12 m13 =>
  unK .not a12 fun a14 =>
  gDK a14 false (fun k => loadK (some 2) y1 m13 fun a15 m16 =>
  k a15 m16) m13 fun r17 a18 m19 =>
  gDK a14 false (fun k => loadK (some 2) y2 m19 fun a20 m21 =>
  k a20 m21) m19 fun r22 a23 m24 =>
  gDK a14 false (fun k => callK call (.func 23 [] []) false [a18, a23] m24 fun a25 m26 =>
  k a25 m26) m24 fun r27 a28 m29 =>
  gDK a14 false (fun k => loadK (some 2) y2 m29 fun a30 m31 =>
  k a30 m31) m29 fun r32 a33 m34 =>
  gDK a14 false (fun k => loadK (some 2) y1 m34 fun a35 m36 =>
  k a35 m36) m34 fun r37 a38 m39 =>
  gDK a14 false (fun k => callK call (.func 23 [] []) false [a33, a38] m39 fun a40 m41 =>
  k a40 m41) m39 fun r42 a43 m44 =>
  gDK a14 false (fun k => callK call (.func 22 [] []) false [a28, a43] m44 fun a45 m46 =>
  k a45 m46) m44 fun r47 a48 m49 =>
  gDK a14 false (fun k => unK .not a48 fun a50 =>
  k a50 m49) m49 fun r51 a52 m53 =>
  pickK a14 (some (.bool true)) (some a52) fun a54 =>
  gDK a54 false (fun k => loadK (some 2) y1 m53 fun a55 m56 =>
  k a55 m56) m53 fun r57 a58 m59 =>
  gDK a54 false (fun k => loadK (some 2) y2 m59 fun a60 m61 =>
  k a60 m61) m59 fun r62 a63 m64 =>
  gDK a54 false (fun k => callK call (.func 11 [] []) false [a58, a63] m64 fun a65 m66 =>
  k a65 m66) m64 fun r67 a68 m69 =>
  gDK a54 false (fun k => loadK (some 2) y3 m69 fun a70 m71 =>
  k a70 m71) m69 fun r72 a73 m74 =>
  gDK a54 false (fun k => callK call (.func 11 [] []) false [a68, a73] m74 fun a75 m76 =>
  k a75 m76) m74 fun r77 a78 m79 =>
  gDK a54 false (fun k => loadK (some 2) y1 m79 fun a80 m81 =>
  k a80 m81) m79 fun r82 a83 m84 =>
  gDK a54 false (fun k => loadK (some 2) y2 m84 fun a85 m86 =>
  k a85 m86) m84 fun r87 a88 m89 =>
  gDK a54 false (fun k => loadK (some 2) y3 m89 fun a90 m91 =>
  k a90 m91) m89 fun r92 a93 m94 =>
  gDK a54 false (fun k => callK call (.func 11 [] []) false [a88, a93] m94 fun a95 m96 =>
  k a95 m96) m94 fun r97 a98 m99 =>
  gDK a54 false (fun k => callK call (.func 11 [] []) false [a83, a98] m99 fun a100 m101 =>
  k a100 m101) m99 fun r102 a103 m104 =>
  gDK a54 false (fun k => callK call (.func 22 [] []) false [a78, a103] m104 fun a105 m106 =>
  k a105 m106) m104 fun r107 a108 m109 =>
  gDK a54 false (fun k => unK .not a108 fun a110 =>
  k a110 m109) m109 fun r111 a112 m113 =>
  pickK a54 (some (.bool true)) (some a112) fun a114 =>
  gDK a114 false (fun k => loadK (some 2) y1 m113 fun a115 m116 =>
  k a115 m116) m113 fun r117 a118 m119 =>
  gDK a114 false (fun k => loadK (some 2) y2 m119 fun a120 m121 =>
  k a120 m121) m119 fun r122 a123 m124 =>
  gDK a114 false (fun k => callK call (.func 23 [] []) false [a118, a123] m124 fun a125 m126 =>
  k a125 m126) m124 fun r127 a128 m129 =>
  gDK a114 false (fun k => loadK (some 2) y3 m129 fun a130 m131 =>
  k a130 m131) m129 fun r132 a133 m134 =>
  gDK a114 false (fun k => callK call (.func 23 [] []) false [a128, a133] m134 fun a135 m136 =>
  k a135 m136) m134 fun r137 a138 m139 =>
  gDK a114 false (fun k => loadK (some 2) y1 m139 fun a140 m141 =>
  k a140 m141) m139 fun r142 a143 m144 =>
  gDK a114 false (fun k => loadK (some 2) y2 m144 fun a145 m146 =>
  k a145 m146) m144 fun r147 a148 m149 =>
  gDK a114 false (fun k => loadK (some 2) y3 m149 fun a150 m151 =>
  k a150 m151) m149 fun r152 a153 m154 =>
  gDK a114 false (fun k => callK call (.func 23 [] []) false [a148, a153] m154 fun a155 m156 =>
  k a155 m156) m154 fun r157 a158 m159 =>
  gDK a114 false (fun k => callK call (.func 23 [] []) false [a143, a158] m159 fun a160 m161 =>
  k a160 m161) m159 fun r162 a163 m164 =>
  gDK a114 false (fun k => callK call (.func 22 [] []) false [a138, a163] m164 fun a165 m166 =>
  k a165 m166) m164 fun r167 a168 m169 =>
  gDK a114 false (fun k => unK .not a168 fun a170 =>
  k a170 m169) m169 fun r171 a172 m173 =>
  pickK a114 (some (.bool true)) (some a172) fun a174 =>
  cond (stayK [m, m5, m11, m13, m29, m44, m49, m69, m79, m99, m104, m109, m129, m139, m159, m164, m169] [(fun m => m.load (some 2) y2, a6, 0, 2, true), (fun m => m.load (some 2) y1, a8, 0, 2, true), (fun m => m.load (some 2) y2, a33, 3, 2, r32), (fun m => m.load (some 2) y1, a38, 3, 2, r37), (fun m => m.load (some 2) y3, a73, 6, 2, r72), (fun m => m.load (some 2) y1, a83, 6, 4, r82), (fun m => m.load (some 2) y2, a88, 6, 3, r87), (fun m => m.load (some 2) y3, a93, 6, 3, r92), (fun m => m.load (some 2) y3, a133, 11, 2, r132), (fun m => m.load (some 2) y1, a143, 11, 4, r142), (fun m => m.load (some 2) y2, a148, 11, 3, r147), (fun m => m.load (some 2) y3, a153, 11, 3, r152)]) (condK a174
  (kx .ret [(4, (.bool false))] m173)
  (Q5_9 y0 y1 y2 y3 m173)) none
theorem g5_10 (call : CL) (n : Nat) (kn : KN) (kx : KX) (b5_9 : C) (y0 y1 y2 y3 : AV) (m : Mem) : evK call n (c5_10 b5_9) [(1, y0), (8, y1), (9, y2), (10, y3)] m kn kx = G5_10 call n kn kx (fun x0 x1 x2 x3 m => evK call n b5_9 [(1, x0), (8, x1), (9, x2), (10, x3)] m kn kx) y0 y1 y2 y3 m := by kernel_rfl
def k5_10 (call : CL) (n : Nat) (kn : KN) (kx : KX) : KN := kn
def x5_10 (call : CL) (n : Nat) (kn : KN) (kx : KX) : KX := kx
def S5_10 (call : CL) (n : Nat) (kn : KN) (kx : KX) (y0 y1 y2 y3 : AV) (m : Mem) : Rho := G5_10 call n kn kx (S5_9 call n kn kx) y0 y1 y2 y3 m
def d5_10 (call : CL) (n : Nat) (kn : KN) (kx : KX) (y0 y1 y2 y3 : AV) (m : Mem) : Rho := evK call n b5_10 [(1, y0), (8, y1), (9, y2), (10, y3)] m (k5_10 call n kn kx) (x5_10 call n kn kx)
theorem l5_10 {call : CL} {n : Nat} {kn : KN} {kx : KX} : d5_10 call n kn kx = S5_10 call n kn kx := by
  funext y0 y1 y2 y3 m
  have h : d5_10 call n kn kx y0 y1 y2 y3 m = G5_10 call n kn kx (d5_9 call n kn kx) y0 y1 y2 y3 m := Eq.mp (by kernel_rfl) (g5_10 call n kn kx b5_9 y0 y1 y2 y3 m)
  rw [l5_9] at h; exact h
def G5_11 (call : CL) (n : Nat) (kn : KN) (kx : KX) (Q5_10 : Y4) (y0 y1 : AV) (m : Mem) : Rho :=
  vK (aLen m 1 y1) m fun a0 m1 =>
  binK .sub a0 (.int .i64 1) fun a2 =>
  vK (aIndexAddr m1 2 y1 a2) m1 fun a3 m4 =>
  loadK (some 2) a3 m4 fun a5 m6 =>
  vK (aLen m6 1 y1) m6 fun a7 m8 =>
  binK .sub a7 (.int .i64 2) fun a9 =>
  vK (aIndexAddr m8 2 y1 a9) m8 fun a10 m11 =>
  loadK (some 2) a10 m11 fun a12 m13 =>
  vK (aLen m13 1 y1) m13 fun a14 m15 =>
  binK .sub a14 (.int .i64 3) fun a16 =>
  vK (aIndexAddr m15 2 y1 a16) m15 fun a17 m18 =>
  loadK (some 2) a17 m18 fun a19 m20 =>
  newK [(.list .full 0 []), (.bool false)] m20 fun a21 m22 =>
  newK [(.list .full 0 []), (.bool false)] m22 fun a23 m24 =>
  newK [(.list .full 0 []), (.bool false)] m24 fun a25 m26 =>
  storeK 2 a21 a5 m26 fun a27 m28 =>
  storeK 2 a23 a12 m28 fun a29 m30 =>
  storeK 2 a25 a19 m30 fun a31 m32 =>
  cond (stayK [m, m22, m24, m26, m28, m30, m32] [(fun m => aLen m 1 y1, a0, 2, 1000001, true), (fun m => m.load (some 2) a3, a5, 16, 1000001, true), (fun m => aLen m 1 y1, a7, 128, 1000001, true), (fun m => m.load (some 2) a10, a12, 1024, 1000001, true), (fun m => aLen m 1 y1, a14, 8192, 1000001, true), (fun m => m.load (some 2) a17, a19, 65536, 1000001, true)]) (Q5_10 y0 a21 a23 a25 m32) none
theorem g5_11 (call : CL) (n : Nat) (kn : KN) (kx : KX) (b5_10 : C) (y0 y1 : AV) (m : Mem) : evK call n (c5_11 b5_10) [(1, y0), (5, y1)] m kn kx = G5_11 call n kn kx (fun x0 x1 x2 x3 m => evK call n b5_10 [(1, x0), (8, x1), (9, x2), (10, x3)] m kn kx) y0 y1 m := by kernel_rfl
def k5_11 (call : CL) (n : Nat) (kn : KN) (kx : KX) : KN := kn
def x5_11 (call : CL) (n : Nat) (kn : KN) (kx : KX) : KX := kx
def S5_11 (call : CL) (n : Nat) (kn : KN) (kx : KX) (y0 y1 : AV) (m : Mem) : Rho := G5_11 call n kn kx (S5_10 call n kn kx) y0 y1 m
def d5_11 (call : CL) (n : Nat) (kn : KN) (kx : KX) (y0 y1 : AV) (m : Mem) : Rho := evK call n b5_11 [(1, y0), (5, y1)] m (k5_11 call n kn kx) (x5_11 call n kn kx)
theorem l5_11 {call : CL} {n : Nat} {kn : KN} {kx : KX} : d5_11 call n kn kx = S5_11 call n kn kx := by
  funext y0 y1 m
  have h : d5_11 call n kn kx y0 y1 m = G5_11 call n kn kx (d5_10 call n kn kx) y0 y1 m := Eq.mp (by kernel_rfl) (g5_11 call n kn kx b5_10 y0 y1 m)
  rw [l5_10] at h; exact h
def G5_12 (call : CL) (n : Nat) (kn : KN) (kx : KX) (Q5_11 : Y2) (y0 y1 y2 : AV) (m : Mem) : Rho :=
  unK .not y2 fun a0 =>
  gK a0 false (fun k => k y1 m) m fun a1 m2 =>
  gK a0 false (fun k => vK (aLen m2 1 a1) m2 fun a3 m4 =>
  k a3 m4) m2 fun a5 m6 =>
  gK a0 false (fun k => binK .lss a5 (.int .i64 3) fun a7 =>
  k a7 m6) m6 fun a8 m9 =>
  pickK a0 (some (.bool true)) (some a8) fun a10 =>
  gK a10 false (fun k => k y0 m9) m9 fun a11 m12 =>
  gK a10 false (fun k => binK .lss a11 (.int .i64 0) fun a13 =>
  k a13 m12) m12 fun a14 m15 =>
  pickK a10 (some (.bool true)) (some a14) fun a16 =>
  gK a16 false (fun k => k y0 m15) m15 fun a17 m18 =>
  gK a16 false (fun k => binK .gtr a17 (.int .i64 5) fun a19 =>
  k a19 m18) m18 fun a20 m21 =>
  pickK a16 (some (.bool true)) (some a20) fun a22 =>
  condK a22
  (callK call (.func 15 [] []) false [] m21 fun a23 m24 =>
  kx .ret [(4, a23)] m24)
  (Q5_11 y0 y1 m21)
theorem g5_12 (call : CL) (n : Nat) (kn : KN) (kx : KX) (b5_11 : C) (y0 y1 y2 : AV) (m : Mem) : evK call n (c5_12 b5_11) [(1, y0), (5, y1), (7, y2)] m kn kx = G5_12 call n kn kx (fun x0 x1 m => evK call n b5_11 [(1, x0), (5, x1)] m kn kx) y0 y1 y2 m := by kernel_rfl
def k5_12 (call : CL) (n : Nat) (kn : KN) (kx : KX) : KN := kn
def x5_12 (call : CL) (n : Nat) (kn : KN) (kx : KX) : KX := kx
def S5_12 (call : CL) (n : Nat) (kn : KN) (kx : KX) (y0 y1 y2 : AV) (m : Mem) : Rho := G5_12 call n kn kx (S5_11 call n kn kx) y0 y1 y2 m
def d5_12 (call : CL) (n : Nat) (kn : KN) (kx : KX) (y0 y1 y2 : AV) (m : Mem) : Rho := evK call n b5_12 [(1, y0), (5, y1), (7, y2)] m (k5_12 call n kn kx) (x5_12 call n kn kx)
theorem l5_12 {call : CL} {n : Nat} {kn : KN} {kx : KX} : d5_12 call n kn kx = S5_12 call n kn kx := by
  funext y0 y1 y2 m
  have h : d5_12 call n kn kx y0 y1 y2 m = G5_12 call n kn kx (d5_11 call n kn kx) y0 y1 y2 m := Eq.mp (by kernel_rfl) (g5_12 call n kn kx b5_11 y0 y1 y2 m)
  rw [l5_11] at h; exact h
def G5_13 (call : CL) (n : Nat) (kn : KN) (kx : KX) (Q5_12 : Y3) (y0 y1 : AV) (m : Mem) : Rho :=
  callK call (.func 16 [] []) false [y0] m fun a0 m1 =>
  extractK a0 0 fun a2 =>
  extractK a0 1 fun a3 =>
  extractK a0 2 fun a4 =>
  Q5_12 y1 a2 a4 m1
theorem g5_13 (call : CL) (n : Nat) (kn : KN) (kx : KX) (b5_12 : C) (y0 y1 : AV) (m : Mem) : evK call n (c5_13 b5_12) [(0, y0), (1, y1)] m kn kx = G5_13 call n kn kx (fun x0 x1 x2 m => evK call n b5_12 [(1, x0), (5, x1), (7, x2)] m kn kx) y0 y1 m := by kernel_rfl
def k5_13 (call : CL) (n : Nat) (kn : KN) (kx : KX) : KN := kn
def x5_13 (call : CL) (n : Nat) (kn : KN) (kx : KX) : KX := kx
def S5_13 (call : CL) (n : Nat) (kn : KN) (kx : KX) (y0 y1 : AV) (m : Mem) : Rho := G5_13 call n kn kx (S5_12 call n kn kx) y0 y1 m
def d5_13 (call : CL) (n : Nat) (kn : KN) (kx : KX) (y0 y1 : AV) (m : Mem) : Rho := evK call n b5_13 [(0, y0), (1, y1)] m (k5_13 call n kn kx) (x5_13 call n kn kx)
theorem l5_13 {call : CL} {n : Nat} {kn : KN} {kx : KX} : d5_13 call n kn kx = S5_13 call n kn kx := by
  funext y0 y1 m
  have h : d5_13 call n kn kx y0 y1 m = G5_13 call n kn kx (d5_12 call n kn kx) y0 y1 m := Eq.mp (by kernel_rfl) (g5_13 call n kn kx b5_12 y0 y1 m)
  rw [l5_12] at h; exact h
def G5 (call : CL) (n : Nat) (kn : KN) (kx : KX) (Q5_13 : Y2) (y0 y1 : AV) (m : Mem) : Rho :=
  Q5_13 y0 y1 m
theorem g5 (call : CL) (n : Nat) (kn : KN) (kx : KX) (b5_13 : C) (y0 y1 : AV) (m : Mem) : evK call n (c5 b5_13) [(0, y0), (1, y1)] m kn kx = G5 call n kn kx (fun x0 x1 m => evK call n b5_13 [(0, x0), (1, x1)] m kn kx) y0 y1 m := by kernel_rfl
def S5 (call : CL) (n : Nat) (kn : KN) (kx : KX) (y0 y1 : AV) (m : Mem) : Rho := G5 call n kn kx (S5_13 call n kn kx) y0 y1 m
theorem s5 (call : CL) (n : Nat) (kn : KN) (kx : KX) (y0 y1 : AV) (m : Mem) : evK call n b5 [(0, y0), (1, y1)] m kn kx = S5 call n kn kx y0 y1 m :=
  have h : evK call n b5 [(0, y0), (1, y1)] m kn kx = G5 call n kn kx (d5_13 call n kn kx) y0 y1 m := Eq.mp (by kernel_rfl) (g5 call n kn kx b5_13 y0 y1 m)
  by rw [l5_13] at h; exact h
def d5 (call : CL) (n : Nat) (kn : KN) (kx : KX) (y0 y1 : AV) (m : Mem) : Rho := evK call n b5 [(0, y0), (1, y1)] m kn kx
theorem l5 {call : CL} {n : Nat} : d5 call n = S5 call n := by funext kn kx y0 y1 m; exact Eq.mp (by kernel_rfl) (s5 call n kn kx y0 y1 m)

-- resolvent/pos.Const
def G10 (call : CL) (n : Nat) (m0 : Mem) (y0 : AV) (m : Mem) : Rho :=
  newK [(.list .full 0 []), (.bool false)] m fun a0 m1 =>
  buildK [(.list .full 0 []), (.bool false)] [(1, 1, AV.untag1 y0)] fun a2 =>
  storeK 2 a0 a2 m1 fun a3 m4 =>
  loadK (some 2) a0 m4 fun a5 _ =>
  retK false false m0 [a5] m4
theorem g10 (call : CL) (n : Nat) (m0 : Mem) (y0 : AV) (m : Mem) : evK call n b10 [(0, y0)] m (fun e m => endK f10 m0 .nrm e m) (endK f10 m0) = G10 call n m0 y0 m := by kernel_rfl
def S10 (call : CL) (n : Nat) (m0 : Mem) (y0 : AV) : Rho := G10 call n m0 y0 { m0 with bad := none }
theorem s10 (call : CL) (n : Nat) (m0 : Mem) (y0 : AV) : bodyK call n f10 [y0] m0 = S10 call n m0 y0 :=
  have h : bodyK call n f10 [y0] m0 = G10 call n m0 y0 { m0 with bad := none } := Eq.mp (by kernel_rfl) (g10 call n m0 y0 { m0 with bad := none })
  h
def F10 : SF := fun call n vs m0 => unc vs fun x0 vs => unz vs (S10 call n m0 x0)
theorem F10_ok {orc : List AV → Mem → Option (AV × Mem)} : SOk 10 { f10 with orc := orc } F10 := by
  intro call n vs m0 ho r h0
  simp only [F10] at h0
  obtain ⟨y0, v0, rfl, h1⟩ := unc_some h0
  obtain ⟨rfl, hz⟩ := unz_some h1
  exact bodyK_le ho rfl r (Eq.mp (by kernel_rfl) ((s10 call n m0 y0).trans hz))

-- resolvent/pos.And
def G11 (call : CL) (n : Nat) (m0 : Mem) (y0 y1 : AV) (m : Mem) : Rho :=
  boxK y0 m fun a0 m1 =>
  boxK y1 m1 fun a2 m3 =>
  newK [(.list .full 0 []), (.bool false)] m3 fun a4 m5 =>
  loadK (some 2) a0 m5 fun a6 m7 =>
  loadK (some 2) a2 m7 fun a8 m9 =>
  buildSliceK 2 [(.list .full 0 []), (.bool false)] 1 false [(0 * 2, 2, AV.untag a8)] m9 fun a10 m11 =>
  callK call (.func 44 [] []) false [(.func 45 [] []), a6, a10] m11 fun a12 m13 =>
  storeK 2 a4 a12 m13 fun a14 m15 =>
  loadK (some 2) a4 m15 fun a16 _ =>
  retK false false m0 [a16] m15
theorem g11 (call : CL) (n : Nat) (m0 : Mem) (y0 y1 : AV) (m : Mem) : evK call n b11 [(0, y0), (1, y1)] m (fun e m => endK f11 m0 .nrm e m) (endK f11 m0) = G11 call n m0 y0 y1 m := by kernel_rfl
def S11 (call : CL) (n : Nat) (m0 : Mem) (y0 y1 : AV) : Rho := G11 call n m0 y0 y1 { m0 with bad := none }
theorem s11 (call : CL) (n : Nat) (m0 : Mem) (y0 y1 : AV) : bodyK call n f11 [y0, y1] m0 = S11 call n m0 y0 y1 :=
  have h : bodyK call n f11 [y0, y1] m0 = G11 call n m0 y0 y1 { m0 with bad := none } := Eq.mp (by kernel_rfl) (g11 call n m0 y0 y1 { m0 with bad := none })
  h
def F11 : SF := fun call n vs m0 => unc vs fun x0 vs => unc vs fun x1 vs => unz vs (S11 call n m0 x0 x1)
theorem F11_ok {orc : List AV → Mem → Option (AV × Mem)} : SOk 11 { f11 with orc := orc } F11 := by
  intro call n vs m0 ho r h0
  simp only [F11] at h0
  obtain ⟨y0, v0, rfl, h1⟩ := unc_some h0
  obtain ⟨y1, v1, rfl, h2⟩ := unc_some h1
  obtain ⟨rfl, hz⟩ := unz_some h2
  exact bodyK_le ho rfl r (Eq.mp (by kernel_rfl) ((s11 call n m0 y0 y1).trans hz))

-- resolvent/pos.Iff
def G12_3 (call : CL) (n : Nat) (m0 : Mem) (y0 y1 y2 y3 y4 : AV) (m : Mem) : Rho :=
  callK call (.func 53 [] []) false [y1, y2] m fun a0 m1 =>
  callK call (.func 47 [] []) false [y1, y4, a0, (.func 45 [] [])] m1 fun a2 m3 =>
  callK call (.func 47 [] []) false [y1, y3, a2, (.func 52 [] [])] m3 fun a4 m5 =>
  callK call (.func 51 [] []) false [y1, a4] m5 fun a6 m7 =>
  storeK 2 y0 a6 m7 fun a8 m9 =>
  loadK (some 2) y0 m9 fun a10 _ =>
  retK false false m0 [a10] m9
theorem g12_3 (call : CL) (n : Nat) (m0 : Mem) (y0 y1 y2 y3 y4 : AV) (m : Mem) : evK call n b12_3 [(4, y0), (5, y1), (6, y2), (11, y3), (12, y4)] m (fun e m => endK f12 m0 .nrm e m) (endK f12 m0) = G12_3 call n m0 y0 y1 y2 y3 y4 m := by kernel_rfl
def k12_3 (call : CL) (n : Nat) (m0 : Mem) : KN := (fun e m => endK f12 m0 .nrm e m)
def x12_3 (call : CL) (n : Nat) (m0 : Mem) : KX := (endK f12 m0)
def S12_3 (call : CL) (n : Nat) (m0 : Mem) (y0 y1 y2 y3 y4 : AV) (m : Mem) : Rho := G12_3 call n m0 y0 y1 y2 y3 y4 m
def d12_3 (call : CL) (n : Nat) (m0 : Mem) (y0 y1 y2 y3 y4 : AV) (m : Mem) : Rho := evK call n b12_3 [(4, y0), (5, y1), (6, y2), (11, y3), (12, y4)] m (k12_3 call n m0) (x12_3 call n m0)
theorem l12_3 {call : CL} {n : Nat} {m0 : Mem} : d12_3 call n m0 = S12_3 call n m0 := by
  funext y0 y1 y2 y3 y4 m
  have h : d12_3 call n m0 y0 y1 y2 y3 y4 m = G12_3 call n m0 y0 y1 y2 y3 y4 m := Eq.mp (by kernel_rfl) (g12_3 call n m0 y0 y1 y2 y3 y4 m)
  exact h
def G12_4 (call : CL) (n : Nat) (m0 : Mem) (Q12_3 : Y5) (y0 y1 y2 y3 y4 : AV) (m : Mem) : Rho :=
  callK call (.func 25 [] []) false [y0] m fun a0 m1 =>
  callK call (.func 48 [] []) false [y3, a0] m1 fun a2 m3 =>
  callK call (.func 49 [] []) false [y1, y0] m3 fun a4 m5 =>
  callK call (.func 47 [] []) false [y3, a2, y4, (.func 45 [] [])] m5 fun a6 m7 =>
  buildK [(.int .i64 0), (.int .i64 0), (.int .i64 0)] [(0, 1, AV.untag1 y0), (1, 1, AV.untag1 (.int .i64 1)), (2, 1, AV.untag1 (.int .i64 0))] fun a8 =>
  callK call (.func 50 [] []) false [y3, a8] m7 fun a9 m10 =>
  condK a4
  (callK call (.func 47 [] []) false [y3, a6, a9, (.func 52 [] [])] m10 fun a11 m12 =>
  callK call (.func 51 [] []) false [y3, a11] m12 fun a13 m14 =>
  storeK 2 y2 a13 m14 fun a15 m16 =>
  loadK (some 2) y2 m16 fun a17 _ =>
  retK false false m0 [a17] m16)
  (Q12_3 y2 y3 y4 a6 a9 m10)
theorem g12_4 (call : CL) (n : Nat) (m0 : Mem) (b12_3 : C) (y0 y1 y2 y3 y4 : AV) (m : Mem) : evK call n (c12_4 b12_3) [(0, y0), (1, y1), (4, y2), (5, y3), (6, y4)] m (fun e m => endK f12 m0 .nrm e m) (endK f12 m0) = G12_4 call n m0 (fun x0 x1 x2 x3 x4 m => evK call n b12_3 [(4, x0), (5, x1), (6, x2), (11, x3), (12, x4)] m (fun e m => endK f12 m0 .nrm e m) (endK f12 m0)) y0 y1 y2 y3 y4 m := by kernel_rfl
def k12_4 (call : CL) (n : Nat) (m0 : Mem) : KN := (fun e m => endK f12 m0 .nrm e m)
def x12_4 (call : CL) (n : Nat) (m0 : Mem) : KX := (endK f12 m0)
def S12_4 (call : CL) (n : Nat) (m0 : Mem) (y0 y1 y2 y3 y4 : AV) (m : Mem) : Rho := G12_4 call n m0 (S12_3 call n m0) y0 y1 y2 y3 y4 m
def d12_4 (call : CL) (n : Nat) (m0 : Mem) (y0 y1 y2 y3 y4 : AV) (m : Mem) : Rho := evK call n b12_4 [(0, y0), (1, y1), (4, y2), (5, y3), (6, y4)] m (k12_4 call n m0) (x12_4 call n m0)
theorem l12_4 {call : CL} {n : Nat} {m0 : Mem} : d12_4 call n m0 = S12_4 call n m0 := by
  funext y0 y1 y2 y3 y4 m
  have h : d12_4 call n m0 y0 y1 y2 y3 y4 m = G12_4 call n m0 (d12_3 call n m0) y0 y1 y2 y3 y4 m := Eq.mp (by kernel_rfl) (g12_4 call n m0 b12_3 y0 y1 y2 y3 y4 m)
  rw [l12_3] at h; exact h
def G12_0 (call : CL) (n : Nat) (kn : KN) (kx : KX) (y0 y1 y2 y3 y4 y5 y6 y7 : AV) (m : Mem) : Rho :=
  binK .add y7 (.int .i64 1) fun a0 =>
  kn [(0, y0), (1, y1), (4, y2), (5, y3), (6, y4), (17, y5), (18, y6), (19, a0)] m
theorem g12_0 (call : CL) (n : Nat) (kn : KN) (kx : KX) (y0 y1 y2 y3 y4 y5 y6 y7 : AV) (m : Mem) : evK call n b12_0 [(0, y0), (1, y1), (4, y2), (5, y3), (6, y4), (17, y5), (18, y6), (19, y7)] m kn kx = G12_0 call n kn kx y0 y1 y2 y3 y4 y5 y6 y7 m := by kernel_rfl
def k12_0 (call : CL) (n : Nat) (kn : KN) (kx : KX) : KN := kn
def x12_0 (call : CL) (n : Nat) (kn : KN) (kx : KX) : KX := kx
def S12_0 (call : CL) (n : Nat) (kn : KN) (kx : KX) (y0 y1 y2 y3 y4 y5 y6 y7 : AV) (m : Mem) : Rho := G12_0 call n kn kx y0 y1 y2 y3 y4 y5 y6 y7 m
def d12_0 (call : CL) (n : Nat) (kn : KN) (kx : KX) (y0 y1 y2 y3 y4 y5 y6 y7 : AV) (m : Mem) : Rho := evK call n b12_0 [(0, y0), (1, y1), (4, y2), (5, y3), (6, y4), (17, y5), (18, y6), (19, y7)] m (k12_0 call n kn kx) (x12_0 call n kn kx)
theorem l12_0 {call : CL} {n : Nat} {kn : KN} {kx : KX} : d12_0 call n kn kx = S12_0 call n kn kx := by
  funext y0 y1 y2 y3 y4 y5 y6 y7 m
  have h : d12_0 call n kn kx y0 y1 y2 y3 y4 y5 y6 y7 m = G12_0 call n kn kx y0 y1 y2 y3 y4 y5 y6 y7 m := Eq.mp (by kernel_rfl) (g12_0 call n kn kx y0 y1 y2 y3 y4 y5 y6 y7 m)
  exact h
def G12_1 (call : CL) (n : Nat) (kn : KN) (kx : KX) (Q12_0 : Y8) (y0 y1 y2 y3 y4 y5 y6 y7 : AV) (m : Mem) : Rho :=
  vK (aIndexAddr m 1 y5 y7) m fun a0 m1 =>
  loadK none a0 m1 fun a2 m3 =>
  binK .neq a2 y0 fun a4 =>
  condK a4
  (callK call (.func 25 [] []) false [a2] m3 fun a5 m6 =>
  callK call (.func 48 [] []) false [y3, a5] m6 fun a7 m8 =>
  callK call (.func 47 [] []) false [y3, y4, a7, (.func 45 [] [])] m8 fun a9 m10 =>
  Q12_0 y0 y1 y2 y3 a9 y5 y6 y7 m10)
  (Q12_0 y0 y1 y2 y3 y4 y5 y6 y7 m3)
theorem g12_1 (call : CL) (n : Nat) (kn : KN) (kx : KX) (b12_0 : C) (y0 y1 y2 y3 y4 y5 y6 y7 : AV) (m : Mem) : evK call n (c12_1 b12_0) [(0, y0), (1, y1), (4, y2), (5, y3), (6, y4), (17, y5), (18, y6), (19, y7)] m kn kx = G12_1 call n kn kx (fun x0 x1 x2 x3 x4 x5 x6 x7 m => evK call n b12_0 [(0, x0), (1, x1), (4, x2), (5, x3), (6, x4), (17, x5), (18, x6), (19, x7)] m kn kx) y0 y1 y2 y3 y4 y5 y6 y7 m := by kernel_rfl
def k12_1 (call : CL) (n : Nat) (kn : KN) (kx : KX) : KN := kn
def x12_1 (call : CL) (n : Nat) (kn : KN) (kx : KX) : KX := kx
def S12_1 (call : CL) (n : Nat) (kn : KN) (kx : KX) (y0 y1 y2 y3 y4 y5 y6 y7 : AV) (m : Mem) : Rho := G12_1 call n kn kx (S12_0 call n kn kx) y0 y1 y2 y3 y4 y5 y6 y7 m
def d12_1 (call : CL) (n : Nat) (kn : KN) (kx : KX) (y0 y1 y2 y3 y4 y5 y6 y7 : AV) (m : Mem) : Rho := evK call n b12_1 [(0, y0), (1, y1), (4, y2), (5, y3), (6, y4), (17, y5), (18, y6), (19, y7)] m (k12_1 call n kn kx) (x12_1 call n kn kx)
theorem l12_1 {call : CL} {n : Nat} {kn : KN} {kx : KX} : d12_1 call n kn kx = S12_1 call n kn kx := by
  funext y0 y1 y2 y3 y4 y5 y6 y7 m
  have h : d12_1 call n kn kx y0 y1 y2 y3 y4 y5 y6 y7 m = G12_1 call n kn kx (d12_0 call n kn kx) y0 y1 y2 y3 y4 y5 y6 y7 m := Eq.mp (by kernel_rfl) (g12_1 call n kn kx b12_0 y0 y1 y2 y3 y4 y5 y6 y7 m)
  rw [l12_0] at h; exact h
def G12_2 (call : CL) (n : Nat) (kn : KN) (kx : KX) (Q12_1 : Y8) (y0 y1 y2 y3 y4 y5 y6 y7 : AV) (m : Mem) : Rho :=
  binK .lss y7 y6 fun a0 =>
  condK a0
  (Q12_1 y0 y1 y2 y3 y4 y5 y6 y7 m)
  (kx (.ext 0) [(0, y0), (1, y1), (4, y2), (5, y3), (6, y4), (17, y5), (18, y6), (19, y7), (20, a0)] m)
theorem g12_2 (call : CL) (n : Nat) (kn : KN) (kx : KX) (b12_1 : C) (y0 y1 y2 y3 y4 y5 y6 y7 : AV) (m : Mem) : evK call n (c12_2 b12_1) [(0, y0), (1, y1), (4, y2), (5, y3), (6, y4), (17, y5), (18, y6), (19, y7)] m kn kx = G12_2 call n kn kx (fun x0 x1 x2 x3 x4 x5 x6 x7 m => evK call n b12_1 [(0, x0), (1, x1), (4, x2), (5, x3), (6, x4), (17, x5), (18, x6), (19, x7)] m kn kx) y0 y1 y2 y3 y4 y5 y6 y7 m := by kernel_rfl
def S12_2 (call : CL) (n : Nat) (kn : KN) (kx : KX) (y0 y1 y2 y3 y4 y5 y6 y7 : AV) (m : Mem) : Rho := G12_2 call n kn kx (S12_1 call n kn kx) y0 y1 y2 y3 y4 y5 y6 y7 m
def d12_2 (call : CL) (n : Nat) (kn : KN) (kx : KX) (y0 y1 y2 y3 y4 y5 y6 y7 : AV) (m : Mem) : Rho := evK call n b12_2 [(0, y0), (1, y1), (4, y2), (5, y3), (6, y4), (17, y5), (18, y6), (19, y7)] m kn kx
theorem l12_2 {call : CL} {n : Nat} : d12_2 call n = S12_2 call n := by
  funext kn kx y0 y1 y2 y3 y4 y5 y6 y7 m
  have h : d12_2 call n kn kx y0 y1 y2 y3 y4 y5 y6 y7 m = G12_2 call n kn kx (d12_1 call n kn kx) y0 y1 y2 y3 y4 y5 y6 y7 m := Eq.mp (by kernel_rfl) (g12_2 call n kn kx b12_1 y0 y1 y2 y3 y4 y5 y6 y7 m)
  rw [l12_1] at h; exact h
def G12_5 (call : CL) (n : Nat) (m0 : Mem) (B12_2 : KN → KX → Y8) (Q12_4 : Y5) (y0 y1 y2 : AV) (m : Mem) : Rho :=
  callK call (.func 46 [] []) false [] m fun a0 m1 =>
  vK (aLen m1 1 y1) m1 fun a2 m3 =>
  loopV [0, 1, 4, 5, 6, 17, 18, 19] none (fun vs m kn kx => unc vs fun x0 vs => unc vs fun x1 vs => unc vs fun x2 vs => unc vs fun x3 vs => unc vs fun x4 vs => unc vs fun x5 vs => unc vs fun x6 vs => unc vs fun x7 vs => unz vs (B12_2 kn kx x0 x1 x2 x3 x4 x5 x6 x7 m)) (blkK 0 (fun e m => keepK e [0, 1, 4, 5, 6] fun vs => unc vs fun x0 vs => unc vs fun x1 vs => unc vs fun x2 vs => unc vs fun x3 vs => unc vs fun x4 vs => unz vs (Q12_4 x0 x1 x2 x3 x4 m)) (endK f12 m0)) n [y0, y1, y2, a0, (.int .i64 1), y1, a2, (.int .i64 0)] m3
theorem g12_5 (call : CL) (n : Nat) (m0 : Mem) (b12_2 : C) (b12_4 : C) (y0 y1 y2 : AV) (m : Mem) : evK call n (c12_5 b12_2 b12_4) [(0, y0), (1, y1), (4, y2)] m (fun e m => endK f12 m0 .nrm e m) (endK f12 m0) = G12_5 call n m0 (fun kn kx x0 x1 x2 x3 x4 x5 x6 x7 m => evK call n b12_2 [(0, x0), (1, x1), (4, x2), (5, x3), (6, x4), (17, x5), (18, x6), (19, x7)] m kn kx) (fun x0 x1 x2 x3 x4 m => evK call n b12_4 [(0, x0), (1, x1), (4, x2), (5, x3), (6, x4)] m (fun e m => endK f12 m0 .nrm e m) (endK f12 m0)) y0 y1 y2 m := by kernel_rfl
def k12_5 (call : CL) (n : Nat) (m0 : Mem) : KN := (fun e m => endK f12 m0 .nrm e m)
def x12_5 (call : CL) (n : Nat) (m0 : Mem) : KX := (endK f12 m0)
def S12_5 (call : CL) (n : Nat) (m0 : Mem) (y0 y1 y2 : AV) (m : Mem) : Rho := G12_5 call n m0 (S12_2 call n) (S12_4 call n m0) y0 y1 y2 m
def d12_5 (call : CL) (n : Nat) (m0 : Mem) (y0 y1 y2 : AV) (m : Mem) : Rho := evK call n b12_5 [(0, y0), (1, y1), (4, y2)] m (k12_5 call n m0) (x12_5 call n m0)
theorem l12_5 {call : CL} {n : Nat} {m0 : Mem} : d12_5 call n m0 = S12_5 call n m0 := by
  funext y0 y1 y2 m
  have h : d12_5 call n m0 y0 y1 y2 m = G12_5 call n m0 (d12_2 call n) (d12_4 call n m0) y0 y1 y2 m := Eq.mp (by kernel_rfl) (g12_5 call n m0 b12_2 b12_4 y0 y1 y2 m)
  rw [l12_2, l12_4] at h; exact h
def G12 (call : CL) (n : Nat) (m0 : Mem) (Q12_5 : Y3) (y0 y1 : AV) (m : Mem) : Rho :=
  newK [(.list .full 0 []), (.bool false)] m fun a0 m1 =>
  binK .lss y0 (.int .i64 0) fun a2 =>
  condK a2
  (callK call (.func 10 [] []) false [(.bool true)] m1 fun a3 m4 =>
  storeK 2 a0 a3 m4 fun a5 m6 =>
  loadK (some 2) a0 m6 fun a7 _ =>
  retK false false m0 [a7] m6)
  (Q12_5 y0 y1 a0 m1)
theorem g12 (call : CL) (n : Nat) (m0 : Mem) (b12_5 : C) (y0 y1 : AV) (m : Mem) : evK call n (c12 b12_5) [(0, y0), (1, y1)] m (fun e m => endK f12 m0 .nrm e m) (endK f12 m0) = G12 call n m0 (fun x0 x1 x2 m => evK call n b12_5 [(0, x0), (1, x1), (4, x2)] m (fun e m => endK f12 m0 .nrm e m) (endK f12 m0)) y0 y1 m := by kernel_rfl
def S12 (call : CL) (n : Nat) (m0 : Mem) (y0 y1 : AV) : Rho := G12 call n m0 (S12_5 call n m0) y0 y1 { m0 with bad := none }
theorem s12 (call : CL) (n : Nat) (m0 : Mem) (y0 y1 : AV) : bodyK call n f12 [y0, y1] m0 = S12 call n m0 y0 y1 :=
  have h : bodyK call n f12 [y0, y1] m0 = G12 call n m0 (d12_5 call n m0) y0 y1 { m0 with bad := none } := Eq.mp (by kernel_rfl) (g12 call n m0 b12_5 y0 y1 { m0 with bad := none })
  by rw [l12_5] at h; exact h
def F12 : SF := fun call n vs m0 => unc vs fun x0 vs => unc vs fun x1 vs => unz vs (S12 call n m0 x0 x1)
theorem F12_ok {orc : List AV → Mem → Option (AV × Mem)} : SOk 12 { f12 with orc := orc } F12 := by
  intro call n vs m0 ho r h0
  simp only [F12] at h0
  obtain ⟨y0, v0, rfl, h1⟩ := unc_some h0
  obtain ⟨y1, v1, rfl, h2⟩ := unc_some h1
  obtain ⟨rfl, hz⟩ := unz_some h2
  exact bodyK_le ho rfl r (Eq.mp (by kernel_rfl) ((s12 call n m0 y0 y1).trans hz))

-- (resolvent/pos.Func).Size
def G13 (call : CL) (n : Nat) (m0 : Mem) (y0 : AV) (m : Mem) : Rho :=
  boxK y0 m fun a0 m1 =>
  vK (aFieldAddr 0 1 a0) m1 fun a2 m3 =>
  loadK none a2 m3 fun a4 m5 =>
  vK (aLen m5 1 a4) m5 fun a6 m7 =>
  retK false false m0 [a6] m7
theorem g13 (call : CL) (n : Nat) (m0 : Mem) (y0 : AV) (m : Mem) : evK call n b13 [(0, y0)] m (fun e m => endK f13 m0 .nrm e m) (endK f13 m0) = G13 call n m0 y0 m := by kernel_rfl
def S13 (call : CL) (n : Nat) (m0 : Mem) (y0 : AV) : Rho := G13 call n m0 y0 { m0 with bad := none }
theorem s13 (call : CL) (n : Nat) (m0 : Mem) (y0 : AV) : bodyK call n f13 [y0] m0 = S13 call n m0 y0 :=
  have h : bodyK call n f13 [y0] m0 = G13 call n m0 y0 { m0 with bad := none } := Eq.mp (by kernel_rfl) (g13 call n m0 y0 { m0 with bad := none })
  h
def F13 : SF := fun call n vs m0 => unc vs fun x0 vs => unz vs (S13 call n m0 x0)
theorem F13_ok {orc : List AV → Mem → Option (AV × Mem)} : SOk 13 { f13 with orc := orc } F13 := by
  intro call n vs m0 ho r h0
  simp only [F13] at h0
  obtain ⟨y0, v0, rfl, h1⟩ := unc_some h0
  obtain ⟨rfl, hz⟩ := unz_some h1
  exact bodyK_le ho rfl r (Eq.mp (by kernel_rfl) ((s13 call n m0 y0).trans hz))

-- (resolvent/pos.Func).Eval
def G14_2 (call : CL) (n : Nat) (m0 : Mem) (y0 : AV) (m : Mem) : Rho :=
  binK .eql y0 (.int .i64 1) fun a0 =>
  retK false false m0 [a0] m
theorem g14_2 (call : CL) (n : Nat) (m0 : Mem) (y0 : AV) (m : Mem) : evK call n b14_2 [(5, y0)] m (fun e m => endK f14 m0 .nrm e m) (endK f14 m0) = G14_2 call n m0 y0 m := by kernel_rfl
def k14_2 (call : CL) (n : Nat) (m0 : Mem) : KN := (fun e m => endK f14 m0 .nrm e m)
def x14_2 (call : CL) (n : Nat) (m0 : Mem) : KX := (endK f14 m0)
def S14_2 (call : CL) (n : Nat) (m0 : Mem) (y0 : AV) (m : Mem) : Rho := G14_2 call n m0 y0 m
def d14_2 (call : CL) (n : Nat) (m0 : Mem) (y0 : AV) (m : Mem) : Rho := evK call n b14_2 [(5, y0)] m (k14_2 call n m0) (x14_2 call n m0)
theorem l14_2 {call : CL} {n : Nat} {m0 : Mem} : d14_2 call n m0 = S14_2 call n m0 := by
  funext y0 m
  have h : d14_2 call n m0 y0 m = G14_2 call n m0 y0 m := Eq.mp (by kernel_rfl) (g14_2 call n m0 y0 m)
  exact h
def G14_0 (call : CL) (n : Nat) (kn : KN) (kx : KX) (y0 y1 y2 : AV) (m : Mem) : Rho :=
  vK (aFieldAddr 0 1 y1) m fun a0 m1 =>
  loadK none a0 m1 fun a2 m3 =>
  binK .sub y2 (.int .i64 2) fun a4 =>
  vK (aIndexAddr m3 3 a2 a4) m3 fun a5 m6 =>
  loadK (some 3) a5 m6 fun a7 m8 =>
  newK [(.int .i64 0), (.int .i64 0), (.int .i64 0)] m8 fun a9 m10 =>
  storeK 3 a9 a7 m10 fun a11 m12 =>
  vK (aFieldAddr 1 1 a9) m12 fun a13 m14 =>
  loadK none a13 m14 fun a15 m16 =>
  vK (aFieldAddr 0 1 a9) m16 fun a17 m18 =>
  loadK none a17 m18 fun a19 m20 =>
  callK call (.func 49 [] []) false [y0, a19] m20 fun a21 m22 =>
  condK a21
  (vK (aFieldAddr 2 1 a9) m22 fun a23 m24 =>
  loadK none a23 m24 fun a25 m26 =>
  kn [(1, y0), (2, y1), (5, a25)] m26)
  (kn [(1, y0), (2, y1), (5, a15), (6, a9), (30, a21)] m22)
theorem g14_0 (call : CL) (n : Nat) (kn : KN) (kx : KX) (y0 y1 y2 : AV) (m : Mem) : evK call n b14_0 [(1, y0), (2, y1), (5, y2)] m kn kx = G14_0 call n kn kx y0 y1 y2 m := by kernel_rfl
def k14_0 (call : CL) (n : Nat) (kn : KN) (kx : KX) : KN := kn
def x14_0 (call : CL) (n : Nat) (kn : KN) (kx : KX) : KX := kx
def S14_0 (call : CL) (n : Nat) (kn : KN) (kx : KX) (y0 y1 y2 : AV) (m : Mem) : Rho := G14_0 call n kn kx y0 y1 y2 m
def d14_0 (call : CL) (n : Nat) (kn : KN) (kx : KX) (y0 y1 y2 : AV) (m : Mem) : Rho := evK call n b14_0 [(1, y0), (2, y1), (5, y2)] m (k14_0 call n kn kx) (x14_0 call n kn kx)
theorem l14_0 {call : CL} {n : Nat} {kn : KN} {kx : KX} : d14_0 call n kn kx = S14_0 call n kn kx := by
  funext y0 y1 y2 m
  have h : d14_0 call n kn kx y0 y1 y2 m = G14_0 call n kn kx y0 y1 y2 m := Eq.mp (by kernel_rfl) (g14_0 call n kn kx y0 y1 y2 m)
  exact h
def G14_1 (call : CL) (n : Nat) (kn : KN) (kx : KX) (Q14_0 : Y3) (y0 y1 y2 : AV) (m : Mem) : Rho :=
  binK .geq y2 (.int .i64 2) fun a0 =>
  condK a0
  (Q14_0 y0 y1 y2 m)
  (kx (.ext 0) [(1, y0), (2, y1), (5, y2), (18, a0)] m)
theorem g14_1 (call : CL) (n : Nat) (kn : KN) (kx : KX) (b14_0 : C) (y0 y1 y2 : AV) (m : Mem) : evK call n (c14_1 b14_0) [(1, y0), (2, y1), (5, y2)] m kn kx = G14_1 call n kn kx (fun x0 x1 x2 m => evK call n b14_0 [(1, x0), (2, x1), (5, x2)] m kn kx) y0 y1 y2 m := by kernel_rfl
def S14_1 (call : CL) (n : Nat) (kn : KN) (kx : KX) (y0 y1 y2 : AV) (m : Mem) : Rho := G14_1 call n kn kx (S14_0 call n kn kx) y0 y1 y2 m
def d14_1 (call : CL) (n : Nat) (kn : KN) (kx : KX) (y0 y1 y2 : AV) (m : Mem) : Rho := evK call n b14_1 [(1, y0), (2, y1), (5, y2)] m kn kx
theorem l14_1 {call : CL} {n : Nat} : d14_1 call n = S14_1 call n := by
  funext kn kx y0 y1 y2 m
  have h : d14_1 call n kn kx y0 y1 y2 m = G14_1 call n kn kx (d14_0 call n kn kx) y0 y1 y2 m := Eq.mp (by kernel_rfl) (g14_1 call n kn kx b14_0 y0 y1 y2 m)
  rw [l14_0] at h; exact h
def G14_3 (call : CL) (n : Nat) (m0 : Mem) (B14_1 : KN → KX → Y3) (Q14_2 : Y1) (y0 y1 : AV) (m : Mem) : Rho :=
  vK (aFieldAddr 0 1 y1) m fun a0 m1 =>
  loadK none a0 m1 fun a2 m3 =>
  vK (aLen m3 1 a2) m3 fun a4 m5 =>
  binK .add a4 (.int .i64 1) fun a6 =>
  loopV [1, 2, 5] none (fun vs m kn kx => unc vs fun x0 vs => unc vs fun x1 vs => unc vs fun x2 vs => unz vs (B14_1 kn kx x0 x1 x2 m)) (blkK 0 (fun e m => keepK e [5] fun vs => unc vs fun x0 vs => unz vs (Q14_2 x0 m)) (endK f14 m0)) n [y0, y1, a6] m5
theorem g14_3 (call : CL) (n : Nat) (m0 : Mem) (b14_1 : C) (b14_2 : C) (y0 y1 : AV) (m : Mem) : evK call n (c14_3 b14_1 b14_2) [(1, y0), (2, y1)] m (fun e m => endK f14 m0 .nrm e m) (endK f14 m0) = G14_3 call n m0 (fun kn kx x0 x1 x2 m => evK call n b14_1 [(1, x0), (2, x1), (5, x2)] m kn kx) (fun x0 m => evK call n b14_2 [(5, x0)] m (fun e m => endK f14 m0 .nrm e m) (endK f14 m0)) y0 y1 m := by kernel_rfl
def k14_3 (call : CL) (n : Nat) (m0 : Mem) : KN := (fun e m => endK f14 m0 .nrm e m)
def x14_3 (call : CL) (n : Nat) (m0 : Mem) : KX := (endK f14 m0)
def S14_3 (call : CL) (n : Nat) (m0 : Mem) (y0 y1 : AV) (m : Mem) : Rho := G14_3 call n m0 (S14_1 call n) (S14_2 call n m0) y0 y1 m
def d14_3 (call : CL) (n : Nat) (m0 : Mem) (y0 y1 : AV) (m : Mem) : Rho := evK call n b14_3 [(1, y0), (2, y1)] m (k14_3 call n m0) (x14_3 call n m0)
theorem l14_3 {call : CL} {n : Nat} {m0 : Mem} : d14_3 call n m0 = S14_3 call n m0 := by
  funext y0 y1 m
  have h : d14_3 call n m0 y0 y1 m = G14_3 call n m0 (d14_1 call n) (d14_2 call n m0) y0 y1 m := Eq.mp (by kernel_rfl) (g14_3 call n m0 b14_1 b14_2 y0 y1 m)
  rw [l14_1, l14_2] at h; exact h
def G14 (call : CL) (n : Nat) (m0 : Mem) (Q14_3 : Y2) (y0 y1 : AV) (m : Mem) : Rho :=
  boxK y0 m fun a0 m1 =>
  vK (aFieldAddr 0 1 a0) m1 fun a2 m3 =>
  loadK none a2 m3 fun a4 m5 =>
  vK (aLen m5 1 a4) m5 fun a6 m7 =>
  binK .eql a6 (.int .i64 0) fun a8 =>
  condK a8
  (vK (aFieldAddr 1 1 a0) m7 fun a9 m10 =>
  loadK none a9 m10 fun a11 m12 =>
  retK false false m0 [a11] m12)
  (Q14_3 y1 a0 m7)
theorem g14 (call : CL) (n : Nat) (m0 : Mem) (b14_3 : C) (y0 y1 : AV) (m : Mem) : evK call n (c14 b14_3) [(0, y0), (1, y1)] m (fun e m => endK f14 m0 .nrm e m) (endK f14 m0) = G14 call n m0 (fun x0 x1 m => evK call n b14_3 [(1, x0), (2, x1)] m (fun e m => endK f14 m0 .nrm e m) (endK f14 m0)) y0 y1 m := by kernel_rfl
def S14 (call : CL) (n : Nat) (m0 : Mem) (y0 y1 : AV) : Rho := G14 call n m0 (S14_3 call n m0) y0 y1 { m0 with bad := none }
theorem s14 (call : CL) (n : Nat) (m0 : Mem) (y0 y1 : AV) : bodyK call n f14 [y0, y1] m0 = S14 call n m0 y0 y1 :=
  have h : bodyK call n f14 [y0, y1] m0 = G14 call n m0 (d14_3 call n m0) y0 y1 { m0 with bad := none } := Eq.mp (by kernel_rfl) (g14 call n m0 b14_3 y0 y1 { m0 with bad := none })
  by rw [l14_3] at h; exact h
def F14 : SF := fun call n vs m0 => unc vs fun x0 vs => unc vs fun x1 vs => unz vs (S14 call n m0 x0 x1)
theorem F14_ok {orc : List AV → Mem → Option (AV × Mem)} : SOk 14 { f14 with orc := orc } F14 := by
  intro call n vs m0 ho r h0
  simp only [F14] at h0
  obtain ⟨y0, v0, rfl, h1⟩ := unc_some h0
  obtain ⟨y1, v1, rfl, h2⟩ := unc_some h1
  obtain ⟨rfl, hz⟩ := unz_some h2
  exact bodyK_le ho rfl r (Eq.mp (by kernel_rfl) ((s14 call n m0 y0 y1).trans hz))

-- resolvent/resolventlaw16.wakes
def G15 (call : CL) (n : Nat) (m0 : Mem) (m : Mem) : Rho :=
  callK call (.func 25 [] []) false [(.int .i64 0)] m fun a0 m1 =>
  buildSliceK 1 [(.int .i64 0)] 2 false [(0 * 1, 1, AV.untag (.int .i64 1)), (1 * 1, 1, AV.untag (.int .i64 2))] m1 fun a2 m3 =>
  callK call (.func 12 [] []) false [(.int .i64 0), a2] m3 fun a4 m5 =>
  callK call (.func 11 [] []) false [a0, a4] m5 fun a6 m7 =>
  newK [(.list .full 0 []), (.bool false)] m7 fun a8 m9 =>
  storeK 2 a8 a6 m9 fun a10 m11 =>
  callK call (.func 25 [] []) false [(.int .i64 0)] m11 fun a12 m13 =>
  callK call (.func 25 [] []) false [(.int .i64 1)] m13 fun a14 m15 =>
  callK call (.func 11 [] []) false [a12, a14] m15 fun a16 m17 =>
  callK call (.func 24 [] []) false [a16, (.int .i64 0)] m17 fun a18 m19 =>
  newK [(.list .full 0 []), (.bool false)] m19 fun a20 m21 =>
  storeK 2 a20 a18 m21 fun a22 m23 =>
  callK call (.func 25 [] []) false [(.int .i64 0)] m23 fun a24 m25 =>
  callK call (.func 10 [] []) false [(.bool true)] m25 fun a26 m27 =>
  callK call (.func 23 [] []) false [a24, a26] m27 fun a28 m29 =>
  newK [(.list .full 0 []), (.bool false)] m29 fun a30 m31 =>
  storeK 2 a30 a28 m31 fun a32 m33 =>
  loadK (some 2) a8 m33 fun a34 m35 =>
  callK call (.func 19 [] []) false [a34, (.int .i64 1)] m35 fun a36 m37 =>
  gDK a36 true (fun k => loadK (some 2) a8 m37 fun a38 m39 =>
  k a38 m39) m37 fun r40 a41 m42 =>
  gDK a36 true (fun k => callK call (.func 19 [] []) false [a41, (.int .i64 2)] m42 fun a43 m44 =>
  k a43 m44) m42 fun r45 a46 m47 =>
  pickK a36 (some a46) (some (.bool false)) fun a48 =>
  gDK a48 true (fun k => loadK (some 2) a8 m47 fun a49 m50 =>
  k a49 m50) m47 fun r51 a52 m53 =>
  gDK a48 true (fun k => callK call (.func 19 [] []) false [a52, (.int .i64 3)] m53 fun a54 m55 =>
  k a54 m55) m53 fun r56 a57 m58 =>
  gDK a48 true (fun k => unK .not a57 fun a59 =>
  k a59 m58) m58 fun r60 a61 m62 =>
  pickK a48 (some a61) (some (.bool false)) fun a63 =>
  gDK a63 true (fun k => loadK (some 2) a20 m62 fun a64 m65 =>
  k a64 m65) m62 fun r66 a67 m68 =>
  gDK a63 true (fun k => callK call (.func 25 [] []) false [(.int .i64 1)] m68 fun a69 m70 =>
  k a69 m70) m68 fun r71 a72 m73 =>
  gDK a63 true (fun k => callK call (.func 22 [] []) false [a67, a72] m73 fun a74 m75 =>
  k a74 m75) m73 fun r76 a77 m78 =>
  pickK a63 (some a77) (some (.bool false)) fun a79 =>
  gDK a79 true (fun k => loadK (some 2) a30 m78 fun a80 m81 =>
  k a80 m81) m78 fun r82 a83 m84 =>
  gDK a79 true (fun k => callK call (.func 10 [] []) false [(.bool true)] m84 fun a85 m86 =>
  k a85 m86) m84 fun r87 a88 m89 =>
  gDK a79 true (fun k => callK call (.func 22 [] []) false [a83, a88] m89 fun a90 m91 =>
  k a90 m91) m89 fun r92 a93 m94 =>
  pickK a79 (some a93) (some (.bool false)) fun a95 =>
  gDK a95 true (fun k => loadK (some 2) a30 m94 fun a96 m97 =>
  k a96 m97) m94 fun r98 a99 m100 =>
  gDK a95 true (fun k => callK call (.func 13 [] []) false [a99] m100 fun a101 m102 =>
  k a101 m102) m100 fun r103 a104 m105 =>
  gDK a95 true (fun k => binK .eql a104 (.int .i64 0) fun a106 =>
  k a106 m105) m105 fun r107 a108 m109 =>
  pickK a95 (some a108) (some (.bool false)) fun a110 =>
  gDK a110 true (fun k => callK call (.func 25 [] []) false [(.int .i64 3)] m109 fun a111 m112 =>
  k a111 m112) m109 fun r113 a114 m115 =>
  gDK a110 true (fun k => buildSliceK 1 [(.int .i64 0)] 1 false [(0 * 1, 1, AV.untag (.int .i64 3))] m115 fun a116 m117 =>
  k a116 m117) m115 fun r118 a119 m120 =>
  gDK a110 true (fun k => callK call (.func 14 [] []) false [a114, a119] m120 fun a121 m122 =>
  k a121 m122) m120 fun r123 a124 m125 =>
  pickK a110 (some a124) (some (.bool false)) fun a126 =>
  gDK a126 true (fun k => callK call (.func 25 [] []) false [(.int .i64 3)] m125 fun a127 m128 =>
  k a127 m128) m125 fun r129 a130 m131 =>
  gDK a126 true (fun k => callK call (.func 14 [] []) false [a130, (.list .full 0 [])] m131 fun a132 m133 =>
  k a132 m133) m131 fun r134 a135 m136 =>
  gDK a126 true (fun k => unK .not a135 fun a137 =>
  k a137 m136) m136 fun r138 a139 m140 =>
  pickK a126 (some a139) (some (.bool false)) fun a141 =>
  cond (stayK [m33, m37, m47, m58, m73, m78, m89, m94, m105, m115, m125, m131, m136] [(fun m => m.load (some 2) a20, a67, 3, 2, r66), (fun m => m.load (some 2) a30, a83, 5, 2, r82)]) (retK false false m0 [a141] m140) none
theorem g15 (call : CL) (n : Nat) (m0 : Mem) (m : Mem) : evK call n b15 [] m (fun e m => endK f15 m0 .nrm e m) (endK f15 m0) = G15 call n m0 m := by kernel_rfl
def S15 (call : CL) (n : Nat) (m0 : Mem) : Rho := G15 call n m0 { m0 with bad := none }
theorem s15 (call : CL) (n : Nat) (m0 : Mem) : bodyK call n f15 [] m0 = S15 call n m0 :=
  have h : bodyK call n f15 [] m0 = G15 call n m0 { m0 with bad := none } := Eq.mp (by kernel_rfl) (g15 call n m0 { m0 with bad := none })
  h
def F15 : SF := fun call n vs m0 => unz vs (S15 call n m0)
theorem F15_ok {orc : List AV → Mem → Option (AV × Mem)} : SOk 15 { f15 with orc := orc } F15 := by
  intro call n vs m0 ho r h0
  simp only [F15] at h0
  obtain ⟨rfl, hz⟩ := unz_some h0
  exact bodyK_le ho rfl r (Eq.mp (by kernel_rfl) ((s15 call n m0).trans hz))

-- resolvent/resolventlaw16.makes
def G16_14 (call : CL) (n : Nat) (m0 : Mem) (y0 y1 : AV) (m : Mem) : Rho :=
  retK false false m0 [y0, y1, (.bool true)] m
theorem g16_14 (call : CL) (n : Nat) (m0 : Mem) (y0 y1 : AV) (m : Mem) : evK call n b16_14 [(5, y0), (6, y1)] m (fun e m => endK f16 m0 .nrm e m) (endK f16 m0) = G16_14 call n m0 y0 y1 m := by kernel_rfl
def k16_14 (call : CL) (n : Nat) (m0 : Mem) : KN := (fun e m => endK f16 m0 .nrm e m)
def x16_14 (call : CL) (n : Nat) (m0 : Mem) : KX := (endK f16 m0)
def S16_14 (call : CL) (n : Nat) (m0 : Mem) (y0 y1 : AV) (m : Mem) : Rho := G16_14 call n m0 y0 y1 m
def d16_14 (call : CL) (n : Nat) (m0 : Mem) (y0 y1 : AV) (m : Mem) : Rho := evK call n b16_14 [(5, y0), (6, y1)] m (k16_14 call n m0) (x16_14 call n m0)
theorem l16_14 {call : CL} {n : Nat} {m0 : Mem} : d16_14 call n m0 = S16_14 call n m0 := by
  funext y0 y1 m
  have h : d16_14 call n m0 y0 y1 m = G16_14 call n m0 y0 y1 m := Eq.mp (by kernel_rfl) (g16_14 call n m0 y0 y1 m)
  exact h
def G16_11 (call : CL) (n : Nat) (kn : KN) (kx : KX) (y0 y1 y2 y3 : AV) (m : Mem) : Rho :=
  binK .add y3 (.int .i64 1) fun a0 =>
  kn [(0, y0), (5, y1), (6, y2), (7, a0)] m
theorem g16_11 (call : CL) (n : Nat) (kn : KN) (kx : KX) (y0 y1 y2 y3 : AV) (m : Mem) : evK call n b16_11 [(0, y0), (5, y1), (6, y2), (7, y3)] m kn kx = G16_11 call n kn kx y0 y1 y2 y3 m := by kernel_rfl
def k16_11 (call : CL) (n : Nat) (kn : KN) (kx : KX) : KN := kn
def x16_11 (call : CL) (n : Nat) (kn : KN) (kx : KX) : KX := kx
def S16_11 (call : CL) (n : Nat) (kn : KN) (kx : KX) (y0 y1 y2 y3 : AV) (m : Mem) : Rho := G16_11 call n kn kx y0 y1 y2 y3 m
def d16_11 (call : CL) (n : Nat) (kn : KN) (kx : KX) (y0 y1 y2 y3 : AV) (m : Mem) : Rho := evK call n b16_11 [(0, y0), (5, y1), (6, y2), (7, y3)] m (k16_11 call n kn kx) (x16_11 call n kn kx)
theorem l16_11 {call : CL} {n : Nat} {kn : KN} {kx : KX} : d16_11 call n kn kx = S16_11 call n kn kx := by
  funext y0 y1 y2 y3 m
  have h : d16_11 call n kn kx y0 y1 y2 y3 m = G16_11 call n kn kx y0 y1 y2 y3 m := Eq.mp (by kernel_rfl) (g16_11 call n kn kx y0 y1 y2 y3 m)
  exact h
def G16_6 (call : CL) (n : Nat) (kn : KN) (kx : KX) (Q16_11 : Y4) (y0 y1 y2 y3 y4 y5 : AV) (m : Mem) : Rho :=
  loadK (some 2) y4 m fun a0 m1 =>
  buildSliceK 2 [(.list .full 0 []), (.bool false)] 1 false [(0 * 2, 2, AV.untag a0)] m1 fun a2 m3 =>
  appendK 2 32 0 y1 a2 m3 fun a4 m5 =>
  buildSliceK 1 [(.int .u64 0)] 1 false [(0 * 1, 1, AV.untag y5)] m5 fun a6 m7 =>
  appendK 1 8 0 y2 a6 m7 fun a8 m9 =>
  Q16_11 y0 a4 a8 y3 m9
theorem g16_6 (call : CL) (n : Nat) (kn : KN) (kx : KX) (b16_11 : C) (k16_11 : KN) (x16_11 : KX) (y0 y1 y2 y3 y4 y5 : AV) (m : Mem) : evK call n b16_6 [(0, y0), (5, y1), (6, y2), (7, y3), (12, y4), (13, y5)] m (jn call n [0, 5, 6, 7] b16_11 k16_11 x16_11) (blkK 1 (jn call n [0, 5, 6, 7] b16_11 k16_11 x16_11) kx) = G16_6 call n kn kx (fun x0 x1 x2 x3 m => evK call n b16_11 [(0, x0), (5, x1), (6, x2), (7, x3)] m k16_11 x16_11) y0 y1 y2 y3 y4 y5 m := by kernel_rfl
def k16_6 (call : CL) (n : Nat) (kn : KN) (kx : KX) : KN := (jn call n [0, 5, 6, 7] b16_11 (k16_11 call n kn kx) (x16_11 call n kn kx))
def x16_6 (call : CL) (n : Nat) (kn : KN) (kx : KX) : KX := (blkK 1 (jn call n [0, 5, 6, 7] b16_11 (k16_11 call n kn kx) (x16_11 call n kn kx)) kx)
def S16_6 (call : CL) (n : Nat) (kn : KN) (kx : KX) (y0 y1 y2 y3 y4 y5 : AV) (m : Mem) : Rho := G16_6 call n kn kx (S16_11 call n kn kx) y0 y1 y2 y3 y4 y5 m
def d16_6 (call : CL) (n : Nat) (kn : KN) (kx : KX) (y0 y1 y2 y3 y4 y5 : AV) (m : Mem) : Rho := evK call n b16_6 [(0, y0), (5, y1), (6, y2), (7, y3), (12, y4), (13, y5)] m (k16_6 call n kn kx) (x16_6 call n kn kx)
theorem l16_6 {call : CL} {n : Nat} {kn : KN} {kx : KX} : d16_6 call n kn kx = S16_6 call n kn kx := by
  funext y0 y1 y2 y3 y4 y5 m
  have h : d16_6 call n kn kx y0 y1 y2 y3 y4 y5 m = G16_6 call n kn kx (d16_11 call n kn kx) y0 y1 y2 y3 y4 y5 m := Eq.mp (by kernel_rfl) (g16_6 call n kn kx b16_11 (k16_11 call n kn kx) (x16_11 call n kn kx) y0 y1 y2 y3 y4 y5 m)
  rw [l16_11] at h; exact h
def G16_3 (call : CL) (n : Nat) (kn : KN) (kx : KX) (y0 y1 y2 y3 y4 y5 y6 y7 : AV) (m : Mem) : Rho :=
  binK .add y7 (.int .i64 1) fun a0 =>
  kn [(0, y0), (5, y1), (6, y2), (7, y3), (8, y4), (12, y5), (13, y6), (14, a0)] m
theorem g16_3 (call : CL) (n : Nat) (kn : KN) (kx : KX) (y0 y1 y2 y3 y4 y5 y6 y7 : AV) (m : Mem) : evK call n b16_3 [(0, y0), (5, y1), (6, y2), (7, y3), (8, y4), (12, y5), (13, y6), (14, y7)] m kn kx = G16_3 call n kn kx y0 y1 y2 y3 y4 y5 y6 y7 m := by kernel_rfl
def k16_3 (call : CL) (n : Nat) (kn : KN) (kx : KX) : KN := kn
def x16_3 (call : CL) (n : Nat) (kn : KN) (kx : KX) : KX := kx
def S16_3 (call : CL) (n : Nat) (kn : KN) (kx : KX) (y0 y1 y2 y3 y4 y5 y6 y7 : AV) (m : Mem) : Rho := G16_3 call n kn kx y0 y1 y2 y3 y4 y5 y6 y7 m
def d16_3 (call : CL) (n : Nat) (kn : KN) (kx : KX) (y0 y1 y2 y3 y4 y5 y6 y7 : AV) (m : Mem) : Rho := evK call n b16_3 [(0, y0), (5, y1), (6, y2), (7, y3), (8, y4), (12, y5), (13, y6), (14, y7)] m (k16_3 call n kn kx) (x16_3 call n kn kx)
theorem l16_3 {call : CL} {n : Nat} {kn : KN} {kx : KX} : d16_3 call n kn kx = S16_3 call n kn kx := by
  funext y0 y1 y2 y3 y4 y5 y6 y7 m
  have h : d16_3 call n kn kx y0 y1 y2 y3 y4 y5 y6 y7 m = G16_3 call n kn kx y0 y1 y2 y3 y4 y5 y6 y7 m := Eq.mp (by kernel_rfl) (g16_3 call n kn kx y0 y1 y2 y3 y4 y5 y6 y7 m)
  exact h
def G16_4 (call : CL) (n : Nat) (kn : KN) (kx : KX) (Q16_3 : Y8) (y0 y1 y2 y3 y4 y5 y6 y7 : AV) (m : Mem) : Rho :=
  loadK (some 5) y4 m fun a0 m1 =>
  callK call (.func 55 [] []) false [a0, y2, y7] m1 fun a2 m3 =>
  condK a2
  (binK .shl (.int .u64 1) y7 fun a4 =>
  binK .or y6 a4 fun a5 =>
  Q16_3 y0 y1 y2 y3 y4 y5 a5 y7 m3)
  (Q16_3 y0 y1 y2 y3 y4 y5 y6 y7 m3)
theorem g16_4 (call : CL) (n : Nat) (kn : KN) (kx : KX) (b16_3 : C) (y0 y1 y2 y3 y4 y5 y6 y7 : AV) (m : Mem) : evK call n (c16_4 b16_3) [(0, y0), (5, y1), (6, y2), (7, y3), (8, y4), (12, y5), (13, y6), (14, y7)] m kn kx = G16_4 call n kn kx (fun x0 x1 x2 x3 x4 x5 x6 x7 m => evK call n b16_3 [(0, x0), (5, x1), (6, x2), (7, x3), (8, x4), (12, x5), (13, x6), (14, x7)] m kn kx) y0 y1 y2 y3 y4 y5 y6 y7 m := by kernel_rfl
def k16_4 (call : CL) (n : Nat) (kn : KN) (kx : KX) : KN := kn
def x16_4 (call : CL) (n : Nat) (kn : KN) (kx : KX) : KX := kx
def S16_4 (call : CL) (n : Nat) (kn : KN) (kx : KX) (y0 y1 y2 y3 y4 y5 y6 y7 : AV) (m : Mem) : Rho := G16_4 call n kn kx (S16_3 call n kn kx) y0 y1 y2 y3 y4 y5 y6 y7 m
def d16_4 (call : CL) (n : Nat) (kn : KN) (kx : KX) (y0 y1 y2 y3 y4 y5 y6 y7 : AV) (m : Mem) : Rho := evK call n b16_4 [(0, y0), (5, y1), (6, y2), (7, y3), (8, y4), (12, y5), (13, y6), (14, y7)] m (k16_4 call n kn kx) (x16_4 call n kn kx)
theorem l16_4 {call : CL} {n : Nat} {kn : KN} {kx : KX} : d16_4 call n kn kx = S16_4 call n kn kx := by
  funext y0 y1 y2 y3 y4 y5 y6 y7 m
  have h : d16_4 call n kn kx y0 y1 y2 y3 y4 y5 y6 y7 m = G16_4 call n kn kx (d16_3 call n kn kx) y0 y1 y2 y3 y4 y5 y6 y7 m := Eq.mp (by kernel_rfl) (g16_4 call n kn kx b16_3 y0 y1 y2 y3 y4 y5 y6 y7 m)
  rw [l16_3] at h; exact h
def G16_5 (call : CL) (n : Nat) (kn : KN) (kx : KX) (Q16_4 : Y8) (y0 y1 y2 y3 y4 y5 y6 y7 : AV) (m : Mem) : Rho :=
  binK .lss y7 (.int .i64 64) fun a0 =>
  condK a0
  (Q16_4 y0 y1 y2 y3 y4 y5 y6 y7 m)
  (kx (.ext 5) [(0, y0), (5, y1), (6, y2), (7, y3), (8, y4), (12, y5), (13, y6), (14, y7), (112, a0)] m)
theorem g16_5 (call : CL) (n : Nat) (kn : KN) (kx : KX) (b16_4 : C) (y0 y1 y2 y3 y4 y5 y6 y7 : AV) (m : Mem) : evK call n (c16_5 b16_4) [(0, y0), (5, y1), (6, y2), (7, y3), (8, y4), (12, y5), (13, y6), (14, y7)] m kn kx = G16_5 call n kn kx (fun x0 x1 x2 x3 x4 x5 x6 x7 m => evK call n b16_4 [(0, x0), (5, x1), (6, x2), (7, x3), (8, x4), (12, x5), (13, x6), (14, x7)] m kn kx) y0 y1 y2 y3 y4 y5 y6 y7 m := by kernel_rfl
def S16_5 (call : CL) (n : Nat) (kn : KN) (kx : KX) (y0 y1 y2 y3 y4 y5 y6 y7 : AV) (m : Mem) : Rho := G16_5 call n kn kx (S16_4 call n kn kx) y0 y1 y2 y3 y4 y5 y6 y7 m
def d16_5 (call : CL) (n : Nat) (kn : KN) (kx : KX) (y0 y1 y2 y3 y4 y5 y6 y7 : AV) (m : Mem) : Rho := evK call n b16_5 [(0, y0), (5, y1), (6, y2), (7, y3), (8, y4), (12, y5), (13, y6), (14, y7)] m kn kx
theorem l16_5 {call : CL} {n : Nat} : d16_5 call n = S16_5 call n := by
  funext kn kx y0 y1 y2 y3 y4 y5 y6 y7 m
  have h : d16_5 call n kn kx y0 y1 y2 y3 y4 y5 y6 y7 m = G16_5 call n kn kx (d16_4 call n kn kx) y0 y1 y2 y3 y4 y5 y6 y7 m := Eq.mp (by kernel_rfl) (g16_5 call n kn kx b16_4 y0 y1 y2 y3 y4 y5 y6 y7 m)
  rw [l16_4] at h; exact h
def G16_7 (call : CL) (n : Nat) (kn : KN) (kx : KX) (B16_5 : KN → KX → Y8) (Q16_6 : Y6) (Q16_11 : Y4) (y0 y1 y2 y3 y4 y5 : AV) (m : Mem) : Rho :=
  loopV [0, 5, 6, 7, 8, 12, 13, 14] none (fun vs m kn kx => unc vs fun x0 vs => unc vs fun x1 vs => unc vs fun x2 vs => unc vs fun x3 vs => unc vs fun x4 vs => unc vs fun x5 vs => unc vs fun x6 vs => unc vs fun x7 vs => unz vs (B16_5 kn kx x0 x1 x2 x3 x4 x5 x6 x7 m)) (blkK 5 (fun e m => keepK e [0, 5, 6, 7, 12, 13] fun vs => unc vs fun x0 vs => unc vs fun x1 vs => unc vs fun x2 vs => unc vs fun x3 vs => unc vs fun x4 vs => unc vs fun x5 vs => unz vs (Q16_6 x0 x1 x2 x3 x4 x5 m)) (blkK 1 (fun e m => keepK e [0, 5, 6, 7] fun vs => unc vs fun x0 vs => unc vs fun x1 vs => unc vs fun x2 vs => unc vs fun x3 vs => unz vs (Q16_11 x0 x1 x2 x3 m)) kx)) n [y0, y1, y2, y3, y4, y5, (.int .u64 0), (.int .i64 0)] m
theorem g16_7 (call : CL) (n : Nat) (kn : KN) (kx : KX) (b16_5 : C) (b16_6 : C) (b16_11 : C) (k16_11 : KN) (x16_11 : KX) (y0 y1 y2 y3 y4 y5 : AV) (m : Mem) : evK call n (c16_7 b16_5 b16_6) [(0, y0), (5, y1), (6, y2), (7, y3), (8, y4), (12, y5)] m (jn call n [0, 5, 6, 7] b16_11 k16_11 x16_11) (blkK 1 (jn call n [0, 5, 6, 7] b16_11 k16_11 x16_11) kx) = G16_7 call n kn kx (fun kn kx x0 x1 x2 x3 x4 x5 x6 x7 m => evK call n b16_5 [(0, x0), (5, x1), (6, x2), (7, x3), (8, x4), (12, x5), (13, x6), (14, x7)] m kn kx) (fun x0 x1 x2 x3 x4 x5 m => evK call n b16_6 [(0, x0), (5, x1), (6, x2), (7, x3), (12, x4), (13, x5)] m (jn call n [0, 5, 6, 7] b16_11 k16_11 x16_11) (blkK 1 (jn call n [0, 5, 6, 7] b16_11 k16_11 x16_11) kx)) (fun x0 x1 x2 x3 m => evK call n b16_11 [(0, x0), (5, x1), (6, x2), (7, x3)] m k16_11 x16_11) y0 y1 y2 y3 y4 y5 m := by kernel_rfl
def k16_7 (call : CL) (n : Nat) (kn : KN) (kx : KX) : KN := (jn call n [0, 5, 6, 7] b16_11 (k16_11 call n kn kx) (x16_11 call n kn kx))
def x16_7 (call : CL) (n : Nat) (kn : KN) (kx : KX) : KX := (blkK 1 (jn call n [0, 5, 6, 7] b16_11 (k16_11 call n kn kx) (x16_11 call n kn kx)) kx)
def S16_7 (call : CL) (n : Nat) (kn : KN) (kx : KX) (y0 y1 y2 y3 y4 y5 : AV) (m : Mem) : Rho := G16_7 call n kn kx (S16_5 call n) (S16_6 call n kn kx) (S16_11 call n kn kx) y0 y1 y2 y3 y4 y5 m
def d16_7 (call : CL) (n : Nat) (kn : KN) (kx : KX) (y0 y1 y2 y3 y4 y5 : AV) (m : Mem) : Rho := evK call n b16_7 [(0, y0), (5, y1), (6, y2), (7, y3), (8, y4), (12, y5)] m (k16_7 call n kn kx) (x16_7 call n kn kx)
theorem l16_7 {call : CL} {n : Nat} {kn : KN} {kx : KX} : d16_7 call n kn kx = S16_7 call n kn kx := by
  funext y0 y1 y2 y3 y4 y5 m
  have h : d16_7 call n kn kx y0 y1 y2 y3 y4 y5 m = G16_7 call n kn kx (d16_5 call n) (d16_6 call n kn kx) (d16_11 call n kn kx) y0 y1 y2 y3 y4 y5 m := Eq.mp (by kernel_rfl) (g16_7 call n kn kx b16_5 b16_6 b16_11 (k16_11 call n kn kx) (x16_11 call n kn kx) y0 y1 y2 y3 y4 y5 m)
  rw [l16_5, l16_6, l16_11] at h; exact h
def G16_8 (call : CL) (n : Nat) (kn : KN) (kx : KX) (Q16_7 : Y6) (y0 y1 y2 y3 y4 y5 y6 : AV) (m : Mem) : Rho :=
  vK (aFieldAddr 1 1 y4) m fun a0 m1 =>
  loadK none a0 m1 fun a2 m3 =>
  binK .gtr a2 (.int .i64 0) fun a4 =>
  callK call (.func 10 [] []) false [a4] m3 fun a5 m6 =>
  newK [(.list .full 0 []), (.bool false)] m6 fun a7 m8 =>
  storeK 2 a7 a5 m8 fun a9 m10 =>
  vK (aFieldAddr 0 1 y4) m10 fun a11 m12 =>
  loadK none a11 m12 fun a13 m14 =>
  binK .eql a13 (.int .i64 0) fun a15 =>
  condK a15
  (vK (aFieldAddr 1 1 y4) m14 fun a16 m17 =>
  loadK none a16 m17 fun a18 m19 =>
  callK call (.func 25 [] []) false [a18] m19 fun a20 m21 =>
  storeK 2 a7 a20 m21 fun a22 m23 =>
  Q16_7 y0 y1 y2 y3 y4 a7 m23)
  (binK .eql a13 (.int .i64 1) fun a24 =>
  condK a24
  (vK (aFieldAddr 1 1 y4) m14 fun a25 m26 =>
  loadK none a25 m26 fun a27 m28 =>
  vK (aFieldAddr 4 1 y4) m28 fun a29 m30 =>
  loadK none a29 m30 fun a31 m32 =>
  callK call (.func 12 [] []) false [a27, a31] m32 fun a33 m34 =>
  storeK 2 a7 a33 m34 fun a35 m36 =>
  Q16_7 y0 y1 y2 y3 y4 a7 m36)
  (binK .eql a13 (.int .i64 2) fun a37 =>
  condK a37
  (loadK (some 2) y5 m14 fun a38 m39 =>
  loadK (some 2) y6 m39 fun a40 m41 =>
  callK call (.func 11 [] []) false [a38, a40] m41 fun a42 m43 =>
  storeK 2 a7 a42 m43 fun a44 m45 =>
  Q16_7 y0 y1 y2 y3 y4 a7 m45)
  (binK .eql a13 (.int .i64 3) fun a46 =>
  condK a46
  (loadK (some 2) y5 m14 fun a47 m48 =>
  loadK (some 2) y6 m48 fun a49 m50 =>
  callK call (.func 23 [] []) false [a47, a49] m50 fun a51 m52 =>
  storeK 2 a7 a51 m52 fun a53 m54 =>
  Q16_7 y0 y1 y2 y3 y4 a7 m54)
  (binK .eql a13 (.int .i64 4) fun a55 =>
  condK a55
  (loadK (some 2) y5 m14 fun a56 m57 =>
  vK (aFieldAddr 1 1 y4) m57 fun a58 m59 =>
  loadK none a58 m59 fun a60 m61 =>
  callK call (.func 24 [] []) false [a56, a60] m61 fun a62 m63 =>
  storeK 2 a7 a62 m63 fun a64 m65 =>
  Q16_7 y0 y1 y2 y3 y4 a7 m65)
  (binK .eql a13 (.int .i64 5) fun a66 =>
  condK a66
  (loadK (some 2) y5 m14 fun a67 m68 =>
  vK (aFieldAddr 4 1 y4) m68 fun a69 m70 =>
  loadK none a69 m70 fun a71 m72 =>
  callK call (.func 26 [] []) false [a67, a71] m72 fun a73 m74 =>
  storeK 2 a7 a73 m74 fun a75 m76 =>
  Q16_7 y0 y1 y2 y3 y4 a7 m76)
  (Q16_7 y0 y1 y2 y3 y4 a7 m14))))))
theorem g16_8 (call : CL) (n : Nat) (kn : KN) (kx : KX) (b16_7 : C) (b16_11 : C) (k16_11 : KN) (x16_11 : KX) (y0 y1 y2 y3 y4 y5 y6 : AV) (m : Mem) : evK call n (c16_8 b16_7) [(0, y0), (5, y1), (6, y2), (7, y3), (8, y4), (10, y5), (11, y6)] m (jn call n [0, 5, 6, 7] b16_11 k16_11 x16_11) (blkK 1 (jn call n [0, 5, 6, 7] b16_11 k16_11 x16_11) kx) = G16_8 call n kn kx (fun x0 x1 x2 x3 x4 x5 m => evK call n b16_7 [(0, x0), (5, x1), (6, x2), (7, x3), (8, x4), (12, x5)] m (jn call n [0, 5, 6, 7] b16_11 k16_11 x16_11) (blkK 1 (jn call n [0, 5, 6, 7] b16_11 k16_11 x16_11) kx)) y0 y1 y2 y3 y4 y5 y6 m := by kernel_rfl
def k16_8 (call : CL) (n : Nat) (kn : KN) (kx : KX) : KN := (jn call n [0, 5, 6, 7] b16_11 (k16_11 call n kn kx) (x16_11 call n kn kx))
def x16_8 (call : CL) (n : Nat) (kn : KN) (kx : KX) : KX := (blkK 1 (jn call n [0, 5, 6, 7] b16_11 (k16_11 call n kn kx) (x16_11 call n kn kx)) kx)
def S16_8 (call : CL) (n : Nat) (kn : KN) (kx : KX) (y0 y1 y2 y3 y4 y5 y6 : AV) (m : Mem) : Rho := G16_8 call n kn kx (S16_7 call n kn kx) y0 y1 y2 y3 y4 y5 y6 m
def d16_8 (call : CL) (n : Nat) (kn : KN) (kx : KX) (y0 y1 y2 y3 y4 y5 y6 : AV) (m : Mem) : Rho := evK call n b16_8 [(0, y0), (5, y1), (6, y2), (7, y3), (8, y4), (10, y5), (11, y6)] m (k16_8 call n kn kx) (x16_8 call n kn kx)
theorem l16_8 {call : CL} {n : Nat} {kn : KN} {kx : KX} : d16_8 call n kn kx = S16_8 call n kn kx := by
  funext y0 y1 y2 y3 y4 y5 y6 m
  have h : d16_8 call n kn kx y0 y1 y2 y3 y4 y5 y6 m = G16_8 call n kn kx (d16_7 call n kn kx) y0 y1 y2 y3 y4 y5 y6 m := Eq.mp (by kernel_rfl) (g16_8 call n kn kx b16_7 b16_11 (k16_11 call n kn kx) (x16_11 call n kn kx) y0 y1 y2 y3 y4 y5 y6 m)
  rw [l16_7] at h; exact h
def G16_9 (call : CL) (n : Nat) (kn : KN) (kx : KX) (Q16_8 : Y7) (y0 y1 y2 y3 y4 : AV) (m : Mem) : Rho :=
  buildK [(.list .full 0 []), (.bool false)] [] fun a0 =>
  buildK [(.list .full 0 []), (.bool false)] [] fun a1 =>
  newK [(.list .full 0 []), (.bool false)] m fun a2 m3 =>
  newK [(.list .full 0 []), (.bool false)] m3 fun a4 m5 =>
  storeK 2 a2 a0 m5 fun a6 m7 =>
  storeK 2 a4 a1 m7 fun a8 m9 =>
  vK (aLen m9 1 y1) m9 fun a10 m11 =>
  binK .gtr a10 (.int .i64 0) fun a12 =>
  condK a12
  (vK (aFieldAddr 2 1 y4) m11 fun a13 m14 =>
  loadK none a13 m14 fun a15 m16 =>
  vK (aLen m16 1 y1) m16 fun a17 m18 =>
  callK call (.func 54 [] []) false [a15, a17] m18 fun a19 m20 =>
  vK (aIndexAddr m20 2 y1 a19) m20 fun a21 m22 =>
  loadK (some 2) a21 m22 fun a23 m24 =>
  storeK 2 a2 a23 m24 fun a25 m26 =>
  vK (aFieldAddr 3 1 y4) m26 fun a27 m28 =>
  loadK none a27 m28 fun a29 m30 =>
  vK (aLen m30 1 y1) m30 fun a31 m32 =>
  callK call (.func 54 [] []) false [a29, a31] m32 fun a33 m34 =>
  vK (aIndexAddr m34 2 y1 a33) m34 fun a35 m36 =>
  loadK (some 2) a35 m36 fun a37 m38 =>
  storeK 2 a4 a37 m38 fun a39 m40 =>
  Q16_8 y0 y1 y2 y3 y4 a2 a4 m40)
  (Q16_8 y0 y1 y2 y3 y4 a2 a4 m11)
theorem g16_9 (call : CL) (n : Nat) (kn : KN) (kx : KX) (b16_8 : C) (b16_11 : C) (k16_11 : KN) (x16_11 : KX) (y0 y1 y2 y3 y4 : AV) (m : Mem) : evK call n (c16_9 b16_8) [(0, y0), (5, y1), (6, y2), (7, y3), (8, y4)] m (jn call n [0, 5, 6, 7] b16_11 k16_11 x16_11) (blkK 1 (jn call n [0, 5, 6, 7] b16_11 k16_11 x16_11) kx) = G16_9 call n kn kx (fun x0 x1 x2 x3 x4 x5 x6 m => evK call n b16_8 [(0, x0), (5, x1), (6, x2), (7, x3), (8, x4), (10, x5), (11, x6)] m (jn call n [0, 5, 6, 7] b16_11 k16_11 x16_11) (blkK 1 (jn call n [0, 5, 6, 7] b16_11 k16_11 x16_11) kx)) y0 y1 y2 y3 y4 m := by kernel_rfl
def k16_9 (call : CL) (n : Nat) (kn : KN) (kx : KX) : KN := (jn call n [0, 5, 6, 7] b16_11 (k16_11 call n kn kx) (x16_11 call n kn kx))
def x16_9 (call : CL) (n : Nat) (kn : KN) (kx : KX) : KX := (blkK 1 (jn call n [0, 5, 6, 7] b16_11 (k16_11 call n kn kx) (x16_11 call n kn kx)) kx)
def S16_9 (call : CL) (n : Nat) (kn : KN) (kx : KX) (y0 y1 y2 y3 y4 : AV) (m : Mem) : Rho := G16_9 call n kn kx (S16_8 call n kn kx) y0 y1 y2 y3 y4 m
def d16_9 (call : CL) (n : Nat) (kn : KN) (kx : KX) (y0 y1 y2 y3 y4 : AV) (m : Mem) : Rho := evK call n b16_9 [(0, y0), (5, y1), (6, y2), (7, y3), (8, y4)] m (k16_9 call n kn kx) (x16_9 call n kn kx)
theorem l16_9 {call : CL} {n : Nat} {kn : KN} {kx : KX} : d16_9 call n kn kx = S16_9 call n kn kx := by
  funext y0 y1 y2 y3 y4 m
  have h : d16_9 call n kn kx y0 y1 y2 y3 y4 m = G16_9 call n kn kx (d16_8 call n kn kx) y0 y1 y2 y3 y4 m := Eq.mp (by kernel_rfl) (g16_9 call n kn kx b16_8 b16_11 (k16_11 call n kn kx) (x16_11 call n kn kx) y0 y1 y2 y3 y4 m)
  rw [l16_8] at h; exact h
def G16_0 (call : CL) (n : Nat) (kn : KN) (kx : KX) (y0 y1 y2 y3 y4 y5 : AV) (m : Mem) : Rho :=
  binK .add y5 (.int .i64 1) fun a0 =>
  kn [(0, y0), (5, y1), (6, y2), (7, y3), (8, y4), (9, a0)] m
theorem g16_0 (call : CL) (n : Nat) (kn : KN) (kx : KX) (y0 y1 y2 y3 y4 y5 : AV) (m : Mem) : evK call n b16_0 [(0, y0), (5, y1), (6, y2), (7, y3), (8, y4), (9, y5)] m kn kx = G16_0 call n kn kx y0 y1 y2 y3 y4 y5 m := by kernel_rfl
def k16_0 (call : CL) (n : Nat) (kn : KN) (kx : KX) : KN := kn
def x16_0 (call : CL) (n : Nat) (kn : KN) (kx : KX) : KX := kx
def S16_0 (call : CL) (n : Nat) (kn : KN) (kx : KX) (y0 y1 y2 y3 y4 y5 : AV) (m : Mem) : Rho := G16_0 call n kn kx y0 y1 y2 y3 y4 y5 m
def d16_0 (call : CL) (n : Nat) (kn : KN) (kx : KX) (y0 y1 y2 y3 y4 y5 : AV) (m : Mem) : Rho := evK call n b16_0 [(0, y0), (5, y1), (6, y2), (7, y3), (8, y4), (9, y5)] m (k16_0 call n kn kx) (x16_0 call n kn kx)
theorem l16_0 {call : CL} {n : Nat} {kn : KN} {kx : KX} : d16_0 call n kn kx = S16_0 call n kn kx := by
  funext y0 y1 y2 y3 y4 y5 m
  have h : d16_0 call n kn kx y0 y1 y2 y3 y4 y5 m = G16_0 call n kn kx y0 y1 y2 y3 y4 y5 m := Eq.mp (by kernel_rfl) (g16_0 call n kn kx y0 y1 y2 y3 y4 y5 m)
  exact h
def G16_1 (call : CL) (n : Nat) (kn : KN) (kx : KX) (Q16_0 : Y6) (y0 y1 y2 y3 y4 y5 : AV) (m : Mem) : Rho :=
  vK (aFieldAddr 4 1 y4) m fun a0 m1 =>
  loadK none a0 m1 fun a2 m3 =>
  vK (aIndexAddr m3 1 a2 y5) m3 fun a4 m5 =>
  loadK none a4 m5 fun a6 m7 =>
  binK .gtr a6 (.int .i64 5) fun a8 =>
  condK a8
  (kx .ret [(2, (.list .full 2 [])), (3, (.list .full 1 [])), (4, (.bool false))] m7)
  (Q16_0 y0 y1 y2 y3 y4 y5 m7)
theorem g16_1 (call : CL) (n : Nat) (kn : KN) (kx : KX) (b16_0 : C) (y0 y1 y2 y3 y4 y5 : AV) (m : Mem) : evK call n (c16_1 b16_0) [(0, y0), (5, y1), (6, y2), (7, y3), (8, y4), (9, y5)] m kn kx = G16_1 call n kn kx (fun x0 x1 x2 x3 x4 x5 m => evK call n b16_0 [(0, x0), (5, x1), (6, x2), (7, x3), (8, x4), (9, x5)] m kn kx) y0 y1 y2 y3 y4 y5 m := by kernel_rfl
def k16_1 (call : CL) (n : Nat) (kn : KN) (kx : KX) : KN := kn
def x16_1 (call : CL) (n : Nat) (kn : KN) (kx : KX) : KX := kx
def S16_1 (call : CL) (n : Nat) (kn : KN) (kx : KX) (y0 y1 y2 y3 y4 y5 : AV) (m : Mem) : Rho := G16_1 call n kn kx (S16_0 call n kn kx) y0 y1 y2 y3 y4 y5 m
def d16_1 (call : CL) (n : Nat) (kn : KN) (kx : KX) (y0 y1 y2 y3 y4 y5 : AV) (m : Mem) : Rho := evK call n b16_1 [(0, y0), (5, y1), (6, y2), (7, y3), (8, y4), (9, y5)] m (k16_1 call n kn kx) (x16_1 call n kn kx)
theorem l16_1 {call : CL} {n : Nat} {kn : KN} {kx : KX} : d16_1 call n kn kx = S16_1 call n kn kx := by
  funext y0 y1 y2 y3 y4 y5 m
  have h : d16_1 call n kn kx y0 y1 y2 y3 y4 y5 m = G16_1 call n kn kx (d16_0 call n kn kx) y0 y1 y2 y3 y4 y5 m := Eq.mp (by kernel_rfl) (g16_1 call n kn kx b16_0 y0 y1 y2 y3 y4 y5 m)
  rw [l16_0] at h; exact h
def G16_2 (call : CL) (n : Nat) (kn : KN) (kx : KX) (Q16_1 : Y6) (y0 y1 y2 y3 y4 y5 : AV) (m : Mem) : Rho :=
  vK (aFieldAddr 4 1 y4) m fun a0 m1 =>
  loadK none a0 m1 fun a2 m3 =>
  vK (aLen m3 1 a2) m3 fun a4 m5 =>
  binK .lss y5 a4 fun a6 =>
  condK a6
  (Q16_1 y0 y1 y2 y3 y4 y5 m5)
  (kx (.ext 2) [(0, y0), (5, y1), (6, y2), (7, y3), (8, y4), (9, y5), (41, a6)] m5)
theorem g16_2 (call : CL) (n : Nat) (kn : KN) (kx : KX) (b16_1 : C) (y0 y1 y2 y3 y4 y5 : AV) (m : Mem) : evK call n (c16_2 b16_1) [(0, y0), (5, y1), (6, y2), (7, y3), (8, y4), (9, y5)] m kn kx = G16_2 call n kn kx (fun x0 x1 x2 x3 x4 x5 m => evK call n b16_1 [(0, x0), (5, x1), (6, x2), (7, x3), (8, x4), (9, x5)] m kn kx) y0 y1 y2 y3 y4 y5 m := by kernel_rfl
def S16_2 (call : CL) (n : Nat) (kn : KN) (kx : KX) (y0 y1 y2 y3 y4 y5 : AV) (m : Mem) : Rho := G16_2 call n kn kx (S16_1 call n kn kx) y0 y1 y2 y3 y4 y5 m
def d16_2 (call : CL) (n : Nat) (kn : KN) (kx : KX) (y0 y1 y2 y3 y4 y5 : AV) (m : Mem) : Rho := evK call n b16_2 [(0, y0), (5, y1), (6, y2), (7, y3), (8, y4), (9, y5)] m kn kx
theorem l16_2 {call : CL} {n : Nat} : d16_2 call n = S16_2 call n := by
  funext kn kx y0 y1 y2 y3 y4 y5 m
  have h : d16_2 call n kn kx y0 y1 y2 y3 y4 y5 m = G16_2 call n kn kx (d16_1 call n kn kx) y0 y1 y2 y3 y4 y5 m := Eq.mp (by kernel_rfl) (g16_2 call n kn kx b16_1 y0 y1 y2 y3 y4 y5 m)
  rw [l16_1] at h; exact h
def G16_10 (call : CL) (n : Nat) (kn : KN) (kx : KX) (B16_2 : KN → KX → Y6) (Q16_9 : Y5) (Q16_11 : Y4) (y0 y1 y2 y3 y4 : AV) (m : Mem) : Rho :=
  loopV [0, 5, 6, 7, 8, 9] none (fun vs m kn kx => unc vs fun x0 vs => unc vs fun x1 vs => unc vs fun x2 vs => unc vs fun x3 vs => unc vs fun x4 vs => unc vs fun x5 vs => unz vs (B16_2 kn kx x0 x1 x2 x3 x4 x5 m)) (blkK 2 (fun e m => keepK e [0, 5, 6, 7, 8] fun vs => unc vs fun x0 vs => unc vs fun x1 vs => unc vs fun x2 vs => unc vs fun x3 vs => unc vs fun x4 vs => unz vs (Q16_9 x0 x1 x2 x3 x4 m)) (blkK 1 (fun e m => keepK e [0, 5, 6, 7] fun vs => unc vs fun x0 vs => unc vs fun x1 vs => unc vs fun x2 vs => unc vs fun x3 vs => unz vs (Q16_11 x0 x1 x2 x3 m)) kx)) n [y0, y1, y2, y3, y4, (.int .i64 0)] m
theorem g16_10 (call : CL) (n : Nat) (kn : KN) (kx : KX) (b16_2 : C) (b16_9 : C) (b16_11 : C) (k16_11 : KN) (x16_11 : KX) (y0 y1 y2 y3 y4 : AV) (m : Mem) : evK call n (c16_10 b16_2 b16_9) [(0, y0), (5, y1), (6, y2), (7, y3), (8, y4)] m (jn call n [0, 5, 6, 7] b16_11 k16_11 x16_11) (blkK 1 (jn call n [0, 5, 6, 7] b16_11 k16_11 x16_11) kx) = G16_10 call n kn kx (fun kn kx x0 x1 x2 x3 x4 x5 m => evK call n b16_2 [(0, x0), (5, x1), (6, x2), (7, x3), (8, x4), (9, x5)] m kn kx) (fun x0 x1 x2 x3 x4 m => evK call n b16_9 [(0, x0), (5, x1), (6, x2), (7, x3), (8, x4)] m (jn call n [0, 5, 6, 7] b16_11 k16_11 x16_11) (blkK 1 (jn call n [0, 5, 6, 7] b16_11 k16_11 x16_11) kx)) (fun x0 x1 x2 x3 m => evK call n b16_11 [(0, x0), (5, x1), (6, x2), (7, x3)] m k16_11 x16_11) y0 y1 y2 y3 y4 m := by kernel_rfl
def k16_10 (call : CL) (n : Nat) (kn : KN) (kx : KX) : KN := (jn call n [0, 5, 6, 7] b16_11 (k16_11 call n kn kx) (x16_11 call n kn kx))
def x16_10 (call : CL) (n : Nat) (kn : KN) (kx : KX) : KX := (blkK 1 (jn call n [0, 5, 6, 7] b16_11 (k16_11 call n kn kx) (x16_11 call n kn kx)) kx)
def S16_10 (call : CL) (n : Nat) (kn : KN) (kx : KX) (y0 y1 y2 y3 y4 : AV) (m : Mem) : Rho := G16_10 call n kn kx (S16_2 call n) (S16_9 call n kn kx) (S16_11 call n kn kx) y0 y1 y2 y3 y4 m
def d16_10 (call : CL) (n : Nat) (kn : KN) (kx : KX) (y0 y1 y2 y3 y4 : AV) (m : Mem) : Rho := evK call n b16_10 [(0, y0), (5, y1), (6, y2), (7, y3), (8, y4)] m (k16_10 call n kn kx) (x16_10 call n kn kx)
theorem l16_10 {call : CL} {n : Nat} {kn : KN} {kx : KX} : d16_10 call n kn kx = S16_10 call n kn kx := by
  funext y0 y1 y2 y3 y4 m
  have h : d16_10 call n kn kx y0 y1 y2 y3 y4 m = G16_10 call n kn kx (d16_2 call n) (d16_9 call n kn kx) (d16_11 call n kn kx) y0 y1 y2 y3 y4 m := Eq.mp (by kernel_rfl) (g16_10 call n kn kx b16_2 b16_9 b16_11 (k16_11 call n kn kx) (x16_11 call n kn kx) y0 y1 y2 y3 y4 m)
  rw [l16_2, l16_9, l16_11] at h; exact h
def G16_12 (call : CL) (n : Nat) (kn : KN) (kx : KX) (Q16_10 : Y5) (y0 y1 y2 y3 : AV) (m : Mem) : Rho :=
  vK (aIndexAddr m 5 y0 y3) m fun a0 m1 =>
  loadK (some 5) a0 m1 fun a2 m3 =>
  newK [(.int .i64 0), (.int .i64 0), (.int .i64 0), (.int .i64 0), (.list .full 0 [])] m3 fun a4 m5 =>
  storeK 5 a4 a2 m5 fun a6 m7 =>
  vK (aFieldAddr 1 1 a4) m7 fun a8 m9 =>
  loadK none a8 m9 fun a10 m11 =>
  binK .gtr a10 (.int .i64 5) fun a12 =>
  gK a12 false (fun k => vK (aFieldAddr 4 1 a4) m11 fun a13 m14 =>
  k a13 m14) m11 fun a15 m16 =>
  gK a12 false (fun k => loadK none a15 m16 fun a17 m18 =>
  k a17 m18) m16 fun a19 m20 =>
  gK a12 false (fun k => vK (aLen m20 1 a19) m20 fun a21 m22 =>
  k a21 m22) m20 fun a23 m24 =>
  gK a12 false (fun k => binK .gtr a23 (.int .i64 8) fun a25 =>
  k a25 m24) m24 fun a26 m27 =>
  pickK a12 (some (.bool true)) (some a26) fun a28 =>
  condK a28
  (kx .ret [(2, (.list .full 2 [])), (3, (.list .full 1 [])), (4, (.bool false))] m27)
  (Q16_10 y0 y1 y2 y3 a4 m27)
theorem g16_12 (call : CL) (n : Nat) (kn : KN) (kx : KX) (b16_10 : C) (b16_11 : C) (y0 y1 y2 y3 : AV) (m : Mem) : evK call n (c16_12 b16_10 b16_11) [(0, y0), (5, y1), (6, y2), (7, y3)] m kn kx = G16_12 call n kn kx (fun x0 x1 x2 x3 x4 m => evK call n b16_10 [(0, x0), (5, x1), (6, x2), (7, x3), (8, x4)] m (jn call n [0, 5, 6, 7] b16_11 kn kx) (blkK 1 (jn call n [0, 5, 6, 7] b16_11 kn kx) kx)) y0 y1 y2 y3 m := by kernel_rfl
def k16_12 (call : CL) (n : Nat) (kn : KN) (kx : KX) : KN := kn
def x16_12 (call : CL) (n : Nat) (kn : KN) (kx : KX) : KX := kx
def S16_12 (call : CL) (n : Nat) (kn : KN) (kx : KX) (y0 y1 y2 y3 : AV) (m : Mem) : Rho := G16_12 call n kn kx (S16_10 call n kn kx) y0 y1 y2 y3 m
def d16_12 (call : CL) (n : Nat) (kn : KN) (kx : KX) (y0 y1 y2 y3 : AV) (m : Mem) : Rho := evK call n b16_12 [(0, y0), (5, y1), (6, y2), (7, y3)] m (k16_12 call n kn kx) (x16_12 call n kn kx)
theorem l16_12 {call : CL} {n : Nat} {kn : KN} {kx : KX} : d16_12 call n kn kx = S16_12 call n kn kx := by
  funext y0 y1 y2 y3 m
  have h : d16_12 call n kn kx y0 y1 y2 y3 m = G16_12 call n kn kx (d16_10 call n kn kx) y0 y1 y2 y3 m := Eq.mp (by kernel_rfl) (g16_12 call n kn kx b16_10 b16_11 y0 y1 y2 y3 m)
  rw [l16_10] at h; exact h
def G16_13 (call : CL) (n : Nat) (kn : KN) (kx : KX) (Q16_12 : Y4) (y0 y1 y2 y3 : AV) (m : Mem) : Rho :=
  vK (aLen m 1 y0) m fun a0 m1 =>
  binK .lss y3 a0 fun a2 =>
  condK a2
  (Q16_12 y0 y1 y2 y3 m1)
  (kx (.ext 0) [(0, y0), (5, y1), (6, y2), (7, y3), (21, a2)] m1)
theorem g16_13 (call : CL) (n : Nat) (kn : KN) (kx : KX) (b16_12 : C) (y0 y1 y2 y3 : AV) (m : Mem) : evK call n (c16_13 b16_12) [(0, y0), (5, y1), (6, y2), (7, y3)] m kn kx = G16_13 call n kn kx (fun x0 x1 x2 x3 m => evK call n b16_12 [(0, x0), (5, x1), (6, x2), (7, x3)] m kn kx) y0 y1 y2 y3 m := by kernel_rfl
def S16_13 (call : CL) (n : Nat) (kn : KN) (kx : KX) (y0 y1 y2 y3 : AV) (m : Mem) : Rho := G16_13 call n kn kx (S16_12 call n kn kx) y0 y1 y2 y3 m
def d16_13 (call : CL) (n : Nat) (kn : KN) (kx : KX) (y0 y1 y2 y3 : AV) (m : Mem) : Rho := evK call n b16_13 [(0, y0), (5, y1), (6, y2), (7, y3)] m kn kx
theorem l16_13 {call : CL} {n : Nat} : d16_13 call n = S16_13 call n := by
  funext kn kx y0 y1 y2 y3 m
  have h : d16_13 call n kn kx y0 y1 y2 y3 m = G16_13 call n kn kx (d16_12 call n kn kx) y0 y1 y2 y3 m := Eq.mp (by kernel_rfl) (g16_13 call n kn kx b16_12 y0 y1 y2 y3 m)
  rw [l16_12] at h; exact h
def G16_15 (call : CL) (n : Nat) (m0 : Mem) (B16_13 : KN → KX → Y4) (Q16_14 : Y2) (y0 : AV) (m : Mem) : Rho :=
  tipK 2 m fun a0 m1 =>
  tipK 1 m1 fun a2 m3 =>
  loopV [0, 5, 6, 7] none (fun vs m kn kx => unc vs fun x0 vs => unc vs fun x1 vs => unc vs fun x2 vs => unc vs fun x3 vs => unz vs (B16_13 kn kx x0 x1 x2 x3 m)) (blkK 0 (fun e m => keepK e [5, 6] fun vs => unc vs fun x0 vs => unc vs fun x1 vs => unz vs (Q16_14 x0 x1 m)) (endK f16 m0)) n [y0, a0, a2, (.int .i64 0)] m3
theorem g16_15 (call : CL) (n : Nat) (m0 : Mem) (b16_13 : C) (b16_14 : C) (y0 : AV) (m : Mem) : evK call n (c16_15 b16_13 b16_14) [(0, y0)] m (fun e m => endK f16 m0 .nrm e m) (endK f16 m0) = G16_15 call n m0 (fun kn kx x0 x1 x2 x3 m => evK call n b16_13 [(0, x0), (5, x1), (6, x2), (7, x3)] m kn kx) (fun x0 x1 m => evK call n b16_14 [(5, x0), (6, x1)] m (fun e m => endK f16 m0 .nrm e m) (endK f16 m0)) y0 m := by kernel_rfl
def k16_15 (call : CL) (n : Nat) (m0 : Mem) : KN := (fun e m => endK f16 m0 .nrm e m)
def x16_15 (call : CL) (n : Nat) (m0 : Mem) : KX := (endK f16 m0)
def S16_15 (call : CL) (n : Nat) (m0 : Mem) (y0 : AV) (m : Mem) : Rho := G16_15 call n m0 (S16_13 call n) (S16_14 call n m0) y0 m
def d16_15 (call : CL) (n : Nat) (m0 : Mem) (y0 : AV) (m : Mem) : Rho := evK call n b16_15 [(0, y0)] m (k16_15 call n m0) (x16_15 call n m0)
theorem l16_15 {call : CL} {n : Nat} {m0 : Mem} : d16_15 call n m0 = S16_15 call n m0 := by
  funext y0 m
  have h : d16_15 call n m0 y0 m = G16_15 call n m0 (d16_13 call n) (d16_14 call n m0) y0 m := Eq.mp (by kernel_rfl) (g16_15 call n m0 b16_13 b16_14 y0 m)
  rw [l16_13, l16_14] at h; exact h
def G16 (call : CL) (n : Nat) (m0 : Mem) (Q16_15 : Y1) (y0 : AV) (m : Mem) : Rho :=
  vK (aLen m 1 y0) m fun a0 m1 =>
  binK .gtr a0 (.int .i64 20) fun a2 =>
  condK a2
  (retK false false m0 [(.list .full 2 []), (.list .full 1 []), (.bool false)] m1)
  (Q16_15 y0 m1)
theorem g16 (call : CL) (n : Nat) (m0 : Mem) (b16_15 : C) (y0 : AV) (m : Mem) : evK call n (c16 b16_15) [(0, y0)] m (fun e m => endK f16 m0 .nrm e m) (endK f16 m0) = G16 call n m0 (fun x0 m => evK call n b16_15 [(0, x0)] m (fun e m => endK f16 m0 .nrm e m) (endK f16 m0)) y0 m := by kernel_rfl
def S16 (call : CL) (n : Nat) (m0 : Mem) (y0 : AV) : Rho := G16 call n m0 (S16_15 call n m0) y0 { m0 with bad := none }
theorem s16 (call : CL) (n : Nat) (m0 : Mem) (y0 : AV) : bodyK call n f16 [y0] m0 = S16 call n m0 y0 :=
  have h : bodyK call n f16 [y0] m0 = G16 call n m0 (d16_15 call n m0) y0 { m0 with bad := none } := Eq.mp (by kernel_rfl) (g16 call n m0 b16_15 y0 { m0 with bad := none })
  by rw [l16_15] at h; exact h
def F16 : SF := fun call n vs m0 => unc vs fun x0 vs => unz vs (S16 call n m0 x0)
theorem F16_ok {orc : List AV → Mem → Option (AV × Mem)} : SOk 16 { f16 with orc := orc } F16 := by
  intro call n vs m0 ho r h0
  simp only [F16] at h0
  obtain ⟨y0, v0, rfl, h1⟩ := unc_some h0
  obtain ⟨rfl, hz⟩ := unz_some h1
  exact bodyK_le ho rfl r (Eq.mp (by kernel_rfl) ((s16 call n m0 y0).trans hz))

-- (resolvent/pos.Func).Vars
def G17_2 (call : CL) (n : Nat) (m0 : Mem) (y0 : AV) (m : Mem) : Rho :=
  callK call (.func 56 [] []) false [y0] m fun a0 m1 =>
  callK call (.func 57 [] []) false [y0] m1 fun a2 m3 =>
  retK false false m0 [a2] m3
theorem g17_2 (call : CL) (n : Nat) (m0 : Mem) (y0 : AV) (m : Mem) : evK call n b17_2 [(3, y0)] m (fun e m => endK f17 m0 .nrm e m) (endK f17 m0) = G17_2 call n m0 y0 m := by kernel_rfl
def k17_2 (call : CL) (n : Nat) (m0 : Mem) : KN := (fun e m => endK f17 m0 .nrm e m)
def x17_2 (call : CL) (n : Nat) (m0 : Mem) : KX := (endK f17 m0)
def S17_2 (call : CL) (n : Nat) (m0 : Mem) (y0 : AV) (m : Mem) : Rho := G17_2 call n m0 y0 m
def d17_2 (call : CL) (n : Nat) (m0 : Mem) (y0 : AV) (m : Mem) : Rho := evK call n b17_2 [(3, y0)] m (k17_2 call n m0) (x17_2 call n m0)
theorem l17_2 {call : CL} {n : Nat} {m0 : Mem} : d17_2 call n m0 = S17_2 call n m0 := by
  funext y0 m
  have h : d17_2 call n m0 y0 m = G17_2 call n m0 y0 m := Eq.mp (by kernel_rfl) (g17_2 call n m0 y0 m)
  exact h
def G17_0 (call : CL) (n : Nat) (kn : KN) (kx : KX) (y0 y1 y2 y3 : AV) (m : Mem) : Rho :=
  vK (aIndexAddr m 3 y1 y3) m fun a0 m1 =>
  loadK (some 3) a0 m1 fun a2 m3 =>
  newK [(.int .i64 0), (.int .i64 0), (.int .i64 0)] m3 fun a4 m5 =>
  storeK 3 a4 a2 m5 fun a6 m7 =>
  vK (aFieldAddr 0 1 a4) m7 fun a8 m9 =>
  loadK none a8 m9 fun a10 m11 =>
  buildSliceK 1 [(.int .i64 0)] 1 false [(0 * 1, 1, AV.untag a10)] m11 fun a12 m13 =>
  appendK 1 8 1 y0 a12 m13 fun a14 m15 =>
  binK .add y3 (.int .i64 1) fun a16 =>
  kn [(3, a14), (7, y1), (8, y2), (9, a16)] m15
theorem g17_0 (call : CL) (n : Nat) (kn : KN) (kx : KX) (y0 y1 y2 y3 : AV) (m : Mem) : evK call n b17_0 [(3, y0), (7, y1), (8, y2), (9, y3)] m kn kx = G17_0 call n kn kx y0 y1 y2 y3 m := by kernel_rfl
def k17_0 (call : CL) (n : Nat) (kn : KN) (kx : KX) : KN := kn
def x17_0 (call : CL) (n : Nat) (kn : KN) (kx : KX) : KX := kx
def S17_0 (call : CL) (n : Nat) (kn : KN) (kx : KX) (y0 y1 y2 y3 : AV) (m : Mem) : Rho := G17_0 call n kn kx y0 y1 y2 y3 m
def d17_0 (call : CL) (n : Nat) (kn : KN) (kx : KX) (y0 y1 y2 y3 : AV) (m : Mem) : Rho := evK call n b17_0 [(3, y0), (7, y1), (8, y2), (9, y3)] m (k17_0 call n kn kx) (x17_0 call n kn kx)
theorem l17_0 {call : CL} {n : Nat} {kn : KN} {kx : KX} : d17_0 call n kn kx = S17_0 call n kn kx := by
  funext y0 y1 y2 y3 m
  have h : d17_0 call n kn kx y0 y1 y2 y3 m = G17_0 call n kn kx y0 y1 y2 y3 m := Eq.mp (by kernel_rfl) (g17_0 call n kn kx y0 y1 y2 y3 m)
  exact h
def G17_1 (call : CL) (n : Nat) (kn : KN) (kx : KX) (Q17_0 : Y4) (y0 y1 y2 y3 : AV) (m : Mem) : Rho :=
  binK .lss y3 y2 fun a0 =>
  condK a0
  (Q17_0 y0 y1 y2 y3 m)
  (kx (.ext 0) [(3, y0), (7, y1), (8, y2), (9, y3), (10, a0)] m)
theorem g17_1 (call : CL) (n : Nat) (kn : KN) (kx : KX) (b17_0 : C) (y0 y1 y2 y3 : AV) (m : Mem) : evK call n (c17_1 b17_0) [(3, y0), (7, y1), (8, y2), (9, y3)] m kn kx = G17_1 call n kn kx (fun x0 x1 x2 x3 m => evK call n b17_0 [(3, x0), (7, x1), (8, x2), (9, x3)] m kn kx) y0 y1 y2 y3 m := by kernel_rfl
def S17_1 (call : CL) (n : Nat) (kn : KN) (kx : KX) (y0 y1 y2 y3 : AV) (m : Mem) : Rho := G17_1 call n kn kx (S17_0 call n kn kx) y0 y1 y2 y3 m
def d17_1 (call : CL) (n : Nat) (kn : KN) (kx : KX) (y0 y1 y2 y3 : AV) (m : Mem) : Rho := evK call n b17_1 [(3, y0), (7, y1), (8, y2), (9, y3)] m kn kx
theorem l17_1 {call : CL} {n : Nat} : d17_1 call n = S17_1 call n := by
  funext kn kx y0 y1 y2 y3 m
  have h : d17_1 call n kn kx y0 y1 y2 y3 m = G17_1 call n kn kx (d17_0 call n kn kx) y0 y1 y2 y3 m := Eq.mp (by kernel_rfl) (g17_1 call n kn kx b17_0 y0 y1 y2 y3 m)
  rw [l17_0] at h; exact h
def G17 (call : CL) (n : Nat) (m0 : Mem) (B17_1 : KN → KX → Y4) (Q17_2 : Y1) (y0 : AV) (m : Mem) : Rho :=
  boxK y0 m fun a0 m1 =>
  vK (aFieldAddr 0 1 a0) m1 fun a2 m3 =>
  loadK none a2 m3 fun a4 m5 =>
  vK (aLen m5 1 a4) m5 fun a6 m7 =>
  loopV [3, 7, 8, 9] none (fun vs m kn kx => unc vs fun x0 vs => unc vs fun x1 vs => unc vs fun x2 vs => unc vs fun x3 vs => unz vs (B17_1 kn kx x0 x1 x2 x3 m)) (blkK 0 (fun e m => keepK e [3] fun vs => unc vs fun x0 vs => unz vs (Q17_2 x0 m)) (endK f17 m0)) n [(.list .full 1 []), a4, a6, (.int .i64 0)] m7
theorem g17 (call : CL) (n : Nat) (m0 : Mem) (b17_1 : C) (b17_2 : C) (y0 : AV) (m : Mem) : evK call n (c17 b17_1 b17_2) [(0, y0)] m (fun e m => endK f17 m0 .nrm e m) (endK f17 m0) = G17 call n m0 (fun kn kx x0 x1 x2 x3 m => evK call n b17_1 [(3, x0), (7, x1), (8, x2), (9, x3)] m kn kx) (fun x0 m => evK call n b17_2 [(3, x0)] m (fun e m => endK f17 m0 .nrm e m) (endK f17 m0)) y0 m := by kernel_rfl
def S17 (call : CL) (n : Nat) (m0 : Mem) (y0 : AV) : Rho := G17 call n m0 (S17_1 call n) (S17_2 call n m0) y0 { m0 with bad := none }
theorem s17 (call : CL) (n : Nat) (m0 : Mem) (y0 : AV) : bodyK call n f17 [y0] m0 = S17 call n m0 y0 :=
  have h : bodyK call n f17 [y0] m0 = G17 call n m0 (d17_1 call n) (d17_2 call n m0) y0 { m0 with bad := none } := Eq.mp (by kernel_rfl) (g17 call n m0 b17_1 b17_2 y0 { m0 with bad := none })
  by rw [l17_1, l17_2] at h; exact h
def F17 : SF := fun call n vs m0 => unc vs fun x0 vs => unz vs (S17 call n m0 x0)
theorem F17_ok {orc : List AV → Mem → Option (AV × Mem)} : SOk 17 { f17 with orc := orc } F17 := by
  intro call n vs m0 ho r h0
  simp only [F17] at h0
  obtain ⟨y0, v0, rfl, h1⟩ := unc_some h0
  obtain ⟨rfl, hz⟩ := unz_some h1
  exact bodyK_le ho rfl r (Eq.mp (by kernel_rfl) ((s17 call n m0 y0).trans hz))

-- resolvent/resolventlaw16.hangs
def G18_4 (call : CL) (n : Nat) (m0 : Mem) (m : Mem) : Rho :=
  retK false false m0 [(.bool false)] m
theorem g18_4 (call : CL) (n : Nat) (m0 : Mem) (m : Mem) : evK call n b18_4 [] m (fun e m => endK f18 m0 .nrm e m) (endK f18 m0) = G18_4 call n m0 m := by kernel_rfl
def k18_4 (call : CL) (n : Nat) (m0 : Mem) : KN := (fun e m => endK f18 m0 .nrm e m)
def x18_4 (call : CL) (n : Nat) (m0 : Mem) : KX := (endK f18 m0)
def S18_4 (call : CL) (n : Nat) (m0 : Mem) (m : Mem) : Rho := G18_4 call n m0 m
def d18_4 (call : CL) (n : Nat) (m0 : Mem) (m : Mem) : Rho := evK call n b18_4 [] m (k18_4 call n m0) (x18_4 call n m0)
theorem l18_4 {call : CL} {n : Nat} {m0 : Mem} : d18_4 call n m0 = S18_4 call n m0 := by
  funext m
  have h : d18_4 call n m0 m = G18_4 call n m0 m := Eq.mp (by kernel_rfl) (g18_4 call n m0 m)
  exact h
def G18_1 (call : CL) (n : Nat) (kn : KN) (kx : KX) (y0 y1 y2 : AV) (m : Mem) : Rho :=
  binK .add y2 (.int .i64 1) fun a0 =>
  kn [(0, y0), (1, y1), (5, a0)] m
theorem g18_1 (call : CL) (n : Nat) (kn : KN) (kx : KX) (y0 y1 y2 : AV) (m : Mem) : evK call n b18_1 [(0, y0), (1, y1), (5, y2)] m kn kx = G18_1 call n kn kx y0 y1 y2 m := by kernel_rfl
def k18_1 (call : CL) (n : Nat) (kn : KN) (kx : KX) : KN := kn
def x18_1 (call : CL) (n : Nat) (kn : KN) (kx : KX) : KX := kx
def S18_1 (call : CL) (n : Nat) (kn : KN) (kx : KX) (y0 y1 y2 : AV) (m : Mem) : Rho := G18_1 call n kn kx y0 y1 y2 m
def d18_1 (call : CL) (n : Nat) (kn : KN) (kx : KX) (y0 y1 y2 : AV) (m : Mem) : Rho := evK call n b18_1 [(0, y0), (1, y1), (5, y2)] m (k18_1 call n kn kx) (x18_1 call n kn kx)
theorem l18_1 {call : CL} {n : Nat} {kn : KN} {kx : KX} : d18_1 call n kn kx = S18_1 call n kn kx := by
  funext y0 y1 y2 m
  have h : d18_1 call n kn kx y0 y1 y2 m = G18_1 call n kn kx y0 y1 y2 m := Eq.mp (by kernel_rfl) (g18_1 call n kn kx y0 y1 y2 m)
  exact h
def G18_2 (call : CL) (n : Nat) (kn : KN) (kx : KX) (Q18_1 : Y3) (y0 y1 y2 : AV) (m : Mem) : Rho :=
  binK .shl (.int .i64 1) y1 fun a0 =>
  binK .or y2 a0 fun a1 =>
  binK .shr y0 a1 fun a2 =>
  binK .and a2 (.int .u64 1) fun a3 =>
  binK .shl (.int .i64 1) y1 fun a4 =>
  binK .andNot y2 a4 fun a5 =>
  binK .shr y0 a5 fun a6 =>
  binK .and a6 (.int .u64 1) fun a7 =>
  binK .neq a3 a7 fun a8 =>
  condK a8
  (kx .ret [(4, (.bool true))] m)
  (Q18_1 y0 y1 y2 m)
theorem g18_2 (call : CL) (n : Nat) (kn : KN) (kx : KX) (b18_1 : C) (y0 y1 y2 : AV) (m : Mem) : evK call n (c18_2 b18_1) [(0, y0), (1, y1), (5, y2)] m kn kx = G18_2 call n kn kx (fun x0 x1 x2 m => evK call n b18_1 [(0, x0), (1, x1), (5, x2)] m kn kx) y0 y1 y2 m := by kernel_rfl
def k18_2 (call : CL) (n : Nat) (kn : KN) (kx : KX) : KN := kn
def x18_2 (call : CL) (n : Nat) (kn : KN) (kx : KX) : KX := kx
def S18_2 (call : CL) (n : Nat) (kn : KN) (kx : KX) (y0 y1 y2 : AV) (m : Mem) : Rho := G18_2 call n kn kx (S18_1 call n kn kx) y0 y1 y2 m
def d18_2 (call : CL) (n : Nat) (kn : KN) (kx : KX) (y0 y1 y2 : AV) (m : Mem) : Rho := evK call n b18_2 [(0, y0), (1, y1), (5, y2)] m (k18_2 call n kn kx) (x18_2 call n kn kx)
theorem l18_2 {call : CL} {n : Nat} {kn : KN} {kx : KX} : d18_2 call n kn kx = S18_2 call n kn kx := by
  funext y0 y1 y2 m
  have h : d18_2 call n kn kx y0 y1 y2 m = G18_2 call n kn kx (d18_1 call n kn kx) y0 y1 y2 m := Eq.mp (by kernel_rfl) (g18_2 call n kn kx b18_1 y0 y1 y2 m)
  rw [l18_1] at h; exact h
def G18_3 (call : CL) (n : Nat) (kn : KN) (kx : KX) (Q18_2 : Y3) (y0 y1 y2 : AV) (m : Mem) : Rho :=
  binK .lss y2 (.int .i64 64) fun a0 =>
  condK a0
  (Q18_2 y0 y1 y2 m)
  (kx (.ext 0) [(0, y0), (1, y1), (5, y2), (7, a0)] m)
theorem g18_3 (call : CL) (n : Nat) (kn : KN) (kx : KX) (b18_2 : C) (y0 y1 y2 : AV) (m : Mem) : evK call n (c18_3 b18_2) [(0, y0), (1, y1), (5, y2)] m kn kx = G18_3 call n kn kx (fun x0 x1 x2 m => evK call n b18_2 [(0, x0), (1, x1), (5, x2)] m kn kx) y0 y1 y2 m := by kernel_rfl
def S18_3 (call : CL) (n : Nat) (kn : KN) (kx : KX) (y0 y1 y2 : AV) (m : Mem) : Rho := G18_3 call n kn kx (S18_2 call n kn kx) y0 y1 y2 m
def d18_3 (call : CL) (n : Nat) (kn : KN) (kx : KX) (y0 y1 y2 : AV) (m : Mem) : Rho := evK call n b18_3 [(0, y0), (1, y1), (5, y2)] m kn kx
theorem l18_3 {call : CL} {n : Nat} : d18_3 call n = S18_3 call n := by
  funext kn kx y0 y1 y2 m
  have h : d18_3 call n kn kx y0 y1 y2 m = G18_3 call n kn kx (d18_2 call n kn kx) y0 y1 y2 m := Eq.mp (by kernel_rfl) (g18_3 call n kn kx b18_2 y0 y1 y2 m)
  rw [l18_2] at h; exact h
def G18 (call : CL) (n : Nat) (m0 : Mem) (B18_3 : KN → KX → Y3) (Q18_4 : Y0) (y0 y1 : AV) (m : Mem) : Rho :=
  loopV [0, 1, 5] none (fun vs m kn kx => unc vs fun x0 vs => unc vs fun x1 vs => unc vs fun x2 vs => unz vs (B18_3 kn kx x0 x1 x2 m)) (blkK 0 (fun e m => keepK e [] fun vs => unz vs (Q18_4 m)) (endK f18 m0)) n [y0, y1, (.int .i64 0)] m
theorem g18 (call : CL) (n : Nat) (m0 : Mem) (b18_3 : C) (b18_4 : C) (y0 y1 : AV) (m : Mem) : evK call n (c18 b18_3 b18_4) [(0, y0), (1, y1)] m (fun e m => endK f18 m0 .nrm e m) (endK f18 m0) = G18 call n m0 (fun kn kx x0 x1 x2 m => evK call n b18_3 [(0, x0), (1, x1), (5, x2)] m kn kx) (fun m => evK call n b18_4 [] m (fun e m => endK f18 m0 .nrm e m) (endK f18 m0)) y0 y1 m := by kernel_rfl
def S18 (call : CL) (n : Nat) (m0 : Mem) (y0 y1 : AV) : Rho := G18 call n m0 (S18_3 call n) (S18_4 call n m0) y0 y1 { m0 with bad := none }
theorem s18 (call : CL) (n : Nat) (m0 : Mem) (y0 y1 : AV) : bodyK call n f18 [y0, y1] m0 = S18 call n m0 y0 y1 :=
  have h : bodyK call n f18 [y0, y1] m0 = G18 call n m0 (d18_3 call n) (d18_4 call n m0) y0 y1 { m0 with bad := none } := Eq.mp (by kernel_rfl) (g18 call n m0 b18_3 b18_4 y0 y1 { m0 with bad := none })
  by rw [l18_3, l18_4] at h; exact h
def F18 : SF := fun call n vs m0 => unc vs fun x0 vs => unc vs fun x1 vs => unz vs (S18 call n m0 x0 x1)
theorem F18_ok {orc : List AV → Mem → Option (AV × Mem)} : SOk 18 { f18 with orc := orc } F18 := by
  intro call n vs m0 ho r h0
  simp only [F18] at h0
  obtain ⟨y0, v0, rfl, h1⟩ := unc_some h0
  obtain ⟨y1, v1, rfl, h2⟩ := unc_some h1
  obtain ⟨rfl, hz⟩ := unz_some h2
  exact bodyK_le ho rfl r (Eq.mp (by kernel_rfl) ((s18 call n m0 y0 y1).trans hz))

-- (resolvent/pos.Func).Entails
def G19 (call : CL) (n : Nat) (m0 : Mem) (y0 y1 : AV) (m : Mem) : Rho :=
  boxK y0 m fun a0 m1 =>
  loadK (some 2) a0 m1 fun a2 m3 =>
  callK call (.func 25 [] []) false [y1] m3 fun a4 m5 =>
  callK call (.func 11 [] []) false [a2, a4] m5 fun a6 m7 =>
  loadK (some 2) a0 m7 fun a8 m9 =>
  callK call (.func 22 [] []) false [a6, a8] m9 fun a10 m11 =>
  gDK a10 true (fun k => k y1 m11) m11 fun r12 a13 m14 =>
  gDK a10 true (fun k => binK .geq a13 (.int .i64 0) fun a15 =>
  k a15 m14) m14 fun r16 a17 m18 =>
  pickK a10 (some a17) (some (.bool false)) fun a19 =>
  cond (stayK [m1, m5, m7, m11] [(fun m => m.load (some 2) a0, a2, 0, 2, true), (fun m => m.load (some 2) a0, a8, 0, 3, true)]) (retK false false m0 [a19] m18) none
theorem g19 (call : CL) (n : Nat) (m0 : Mem) (y0 y1 : AV) (m : Mem) : evK call n b19 [(0, y0), (1, y1)] m (fun e m => endK f19 m0 .nrm e m) (endK f19 m0) = G19 call n m0 y0 y1 m := by kernel_rfl
def S19 (call : CL) (n : Nat) (m0 : Mem) (y0 y1 : AV) : Rho := G19 call n m0 y0 y1 { m0 with bad := none }
theorem s19 (call : CL) (n : Nat) (m0 : Mem) (y0 y1 : AV) : bodyK call n f19 [y0, y1] m0 = S19 call n m0 y0 y1 :=
  have h : bodyK call n f19 [y0, y1] m0 = G19 call n m0 y0 y1 { m0 with bad := none } := Eq.mp (by kernel_rfl) (g19 call n m0 y0 y1 { m0 with bad := none })
  h
def F19 : SF := fun call n vs m0 => unc vs fun x0 vs => unc vs fun x1 vs => unz vs (S19 call n m0 x0 x1)
theorem F19_ok {orc : List AV → Mem → Option (AV × Mem)} : SOk 19 { f19 with orc := orc } F19 := by
  intro call n vs m0 ho r h0
  simp only [F19] at h0
  obtain ⟨y0, v0, rfl, h1⟩ := unc_some h0
  obtain ⟨y1, v1, rfl, h2⟩ := unc_some h1
  obtain ⟨rfl, hz⟩ := unz_some h2
  exact bodyK_le ho rfl r (Eq.mp (by kernel_rfl) ((s19 call n m0 y0 y1).trans hz))

-- (resolvent/pos.Func).Same
def G22 (call : CL) (n : Nat) (m0 : Mem) (y0 y1 : AV) (m : Mem) : Rho :=
  boxK y0 m fun a0 m1 =>
  boxK y1 m1 fun a2 m3 =>
  vK (aFieldAddr 1 1 a0) m3 fun a4 m5 =>
  loadK none a4 m5 fun a6 m7 =>
  vK (aFieldAddr 1 1 a2) m7 fun a8 m9 =>
  loadK none a8 m9 fun a10 m11 =>
  eqvK ⟨[.b], false⟩ false a6 a10 fun a12 =>
  gK a12 true (fun k => vK (aFieldAddr 0 1 a0) m11 fun a13 m14 =>
  k a13 m14) m11 fun a15 m16 =>
  gK a12 true (fun k => loadK none a15 m16 fun a17 m18 =>
  k a17 m18) m16 fun a19 m20 =>
  gK a12 true (fun k => vK (aFieldAddr 0 1 a2) m20 fun a21 m22 =>
  k a21 m22) m20 fun a23 m24 =>
  gK a12 true (fun k => loadK none a23 m24 fun a25 m26 =>
  k a25 m26) m24 fun a27 m28 =>
  gK a12 true (fun k => callK call (.func 59 [] []) false [a19, a27] m28 fun a29 m30 =>
  k a29 m30) m28 fun a31 m32 =>
  pickK a12 (some a31) (some (.bool false)) fun a33 =>
  retK false false m0 [a33] m32
theorem g22 (call : CL) (n : Nat) (m0 : Mem) (y0 y1 : AV) (m : Mem) : evK call n b22 [(0, y0), (1, y1)] m (fun e m => endK f22 m0 .nrm e m) (endK f22 m0) = G22 call n m0 y0 y1 m := by kernel_rfl
def S22 (call : CL) (n : Nat) (m0 : Mem) (y0 y1 : AV) : Rho := G22 call n m0 y0 y1 { m0 with bad := none }
theorem s22 (call : CL) (n : Nat) (m0 : Mem) (y0 y1 : AV) : bodyK call n f22 [y0, y1] m0 = S22 call n m0 y0 y1 :=
  have h : bodyK call n f22 [y0, y1] m0 = G22 call n m0 y0 y1 { m0 with bad := none } := Eq.mp (by kernel_rfl) (g22 call n m0 y0 y1 { m0 with bad := none })
  h
def F22 : SF := fun call n vs m0 => unc vs fun x0 vs => unc vs fun x1 vs => unz vs (S22 call n m0 x0 x1)
theorem F22_ok {orc : List AV → Mem → Option (AV × Mem)} : SOk 22 { f22 with orc := orc } F22 := by
  intro call n vs m0 ho r h0
  simp only [F22] at h0
  obtain ⟨y0, v0, rfl, h1⟩ := unc_some h0
  obtain ⟨y1, v1, rfl, h2⟩ := unc_some h1
  obtain ⟨rfl, hz⟩ := unz_some h2
  exact bodyK_le ho rfl r (Eq.mp (by kernel_rfl) ((s22 call n m0 y0 y1).trans hz))

-- resolvent/pos.Or
def G23 (call : CL) (n : Nat) (m0 : Mem) (y0 y1 : AV) (m : Mem) : Rho :=
  boxK y0 m fun a0 m1 =>
  boxK y1 m1 fun a2 m3 =>
  newK [(.list .full 0 []), (.bool false)] m3 fun a4 m5 =>
  loadK (some 2) a0 m5 fun a6 m7 =>
  loadK (some 2) a2 m7 fun a8 m9 =>
  buildSliceK 2 [(.list .full 0 []), (.bool false)] 1 false [(0 * 2, 2, AV.untag a8)] m9 fun a10 m11 =>
  callK call (.func 44 [] []) false [(.func 52 [] []), a6, a10] m11 fun a12 m13 =>
  storeK 2 a4 a12 m13 fun a14 m15 =>
  loadK (some 2) a4 m15 fun a16 _ =>
  retK false false m0 [a16] m15
theorem g23 (call : CL) (n : Nat) (m0 : Mem) (y0 y1 : AV) (m : Mem) : evK call n b23 [(0, y0), (1, y1)] m (fun e m => endK f23 m0 .nrm e m) (endK f23 m0) = G23 call n m0 y0 y1 m := by kernel_rfl
def S23 (call : CL) (n : Nat) (m0 : Mem) (y0 y1 : AV) : Rho := G23 call n m0 y0 y1 { m0 with bad := none }
theorem s23 (call : CL) (n : Nat) (m0 : Mem) (y0 y1 : AV) : bodyK call n f23 [y0, y1] m0 = S23 call n m0 y0 y1 :=
  have h : bodyK call n f23 [y0, y1] m0 = G23 call n m0 y0 y1 { m0 with bad := none } := Eq.mp (by kernel_rfl) (g23 call n m0 y0 y1 { m0 with bad := none })
  h
def F23 : SF := fun call n vs m0 => unc vs fun x0 vs => unc vs fun x1 vs => unz vs (S23 call n m0 x0 x1)
theorem F23_ok {orc : List AV → Mem → Option (AV × Mem)} : SOk 23 { f23 with orc := orc } F23 := by
  intro call n vs m0 ho r h0
  simp only [F23] at h0
  obtain ⟨y0, v0, rfl, h1⟩ := unc_some h0
  obtain ⟨y1, v1, rfl, h2⟩ := unc_some h1
  obtain ⟨rfl, hz⟩ := unz_some h2
  exact bodyK_le ho rfl r (Eq.mp (by kernel_rfl) ((s23 call n m0 y0 y1).trans hz))

-- resolvent/pos.Exists
def G24_0 (call : CL) (n : Nat) (m0 : Mem) (y0 y1 y2 : AV) (m : Mem) : Rho :=
  callK call (.func 46 [] []) false [] m fun a0 m1 =>
  loadK (some 2) y1 m1 fun a2 m3 =>
  callK call (.func 48 [] []) false [a0, a2] m3 fun a4 m5 =>
  callK call (.func 60 [] []) false [a0, a4, y0, (.bool false)] m5 fun a6 m7 =>
  callK call (.func 60 [] []) false [a0, a4, y0, (.bool true)] m7 fun a8 m9 =>
  callK call (.func 47 [] []) false [a0, a6, a8, (.func 52 [] [])] m9 fun a10 m11 =>
  callK call (.func 51 [] []) false [a0, a10] m11 fun a12 m13 =>
  storeK 2 y2 a12 m13 fun a14 m15 =>
  loadK (some 2) y2 m15 fun a16 _ =>
  retK false false m0 [a16] m15
theorem g24_0 (call : CL) (n : Nat) (m0 : Mem) (y0 y1 y2 : AV) (m : Mem) : evK call n b24_0 [(1, y0), (2, y1), (4, y2)] m (fun e m => endK f24 m0 .nrm e m) (endK f24 m0) = G24_0 call n m0 y0 y1 y2 m := by kernel_rfl
def k24_0 (call : CL) (n : Nat) (m0 : Mem) : KN := (fun e m => endK f24 m0 .nrm e m)
def x24_0 (call : CL) (n : Nat) (m0 : Mem) : KX := (endK f24 m0)
def S24_0 (call : CL) (n : Nat) (m0 : Mem) (y0 y1 y2 : AV) (m : Mem) : Rho := G24_0 call n m0 y0 y1 y2 m
def d24_0 (call : CL) (n : Nat) (m0 : Mem) (y0 y1 y2 : AV) (m : Mem) : Rho := evK call n b24_0 [(1, y0), (2, y1), (4, y2)] m (k24_0 call n m0) (x24_0 call n m0)
theorem l24_0 {call : CL} {n : Nat} {m0 : Mem} : d24_0 call n m0 = S24_0 call n m0 := by
  funext y0 y1 y2 m
  have h : d24_0 call n m0 y0 y1 y2 m = G24_0 call n m0 y0 y1 y2 m := Eq.mp (by kernel_rfl) (g24_0 call n m0 y0 y1 y2 m)
  exact h
def G24 (call : CL) (n : Nat) (m0 : Mem) (Q24_0 : Y3) (y0 y1 : AV) (m : Mem) : Rho :=
  boxK y0 m fun a0 m1 =>
  newK [(.list .full 0 []), (.bool false)] m1 fun a2 m3 =>
  binK .lss y1 (.int .i64 0) fun a4 =>
  condK a4
  (loadK (some 2) a0 m3 fun a5 m6 =>
  storeK 2 a2 a5 m6 fun a7 m8 =>
  loadK (some 2) a2 m8 fun a9 _ =>
  retK false false m0 [a9] m8)
  (Q24_0 y1 a0 a2 m3)
theorem g24 (call : CL) (n : Nat) (m0 : Mem) (b24_0 : C) (y0 y1 : AV) (m : Mem) : evK call n (c24 b24_0) [(0, y0), (1, y1)] m (fun e m => endK f24 m0 .nrm e m) (endK f24 m0) = G24 call n m0 (fun x0 x1 x2 m => evK call n b24_0 [(1, x0), (2, x1), (4, x2)] m (fun e m => endK f24 m0 .nrm e m) (endK f24 m0)) y0 y1 m := by kernel_rfl
def S24 (call : CL) (n : Nat) (m0 : Mem) (y0 y1 : AV) : Rho := G24 call n m0 (S24_0 call n m0) y0 y1 { m0 with bad := none }
theorem s24 (call : CL) (n : Nat) (m0 : Mem) (y0 y1 : AV) : bodyK call n f24 [y0, y1] m0 = S24 call n m0 y0 y1 :=
  have h : bodyK call n f24 [y0, y1] m0 = G24 call n m0 (d24_0 call n m0) y0 y1 { m0 with bad := none } := Eq.mp (by kernel_rfl) (g24 call n m0 b24_0 y0 y1 { m0 with bad := none })
  by rw [l24_0] at h; exact h
def F24 : SF := fun call n vs m0 => unc vs fun x0 vs => unc vs fun x1 vs => unz vs (S24 call n m0 x0 x1)
theorem F24_ok {orc : List AV → Mem → Option (AV × Mem)} : SOk 24 { f24 with orc := orc } F24 := by
  intro call n vs m0 ho r h0
  simp only [F24] at h0
  obtain ⟨y0, v0, rfl, h1⟩ := unc_some h0
  obtain ⟨y1, v1, rfl, h2⟩ := unc_some h1
  obtain ⟨rfl, hz⟩ := unz_some h2
  exact bodyK_le ho rfl r (Eq.mp (by kernel_rfl) ((s24 call n m0 y0 y1).trans hz))

-- resolvent/pos.Var
def G25_0 (call : CL) (n : Nat) (m0 : Mem) (y0 y1 : AV) (m : Mem) : Rho :=
  buildK [(.int .i64 0), (.int .i64 0), (.int .i64 0)] [(0, 1, AV.untag1 y0), (1, 1, AV.untag1 (.int .i64 0)), (2, 1, AV.untag1 (.int .i64 1))] fun a0 =>
  buildSliceK 3 [(.int .i64 0), (.int .i64 0), (.int .i64 0)] 1 false [(0 * 3, 3, AV.untag a0)] m fun a1 m2 =>
  buildK [(.list .full 0 []), (.bool false)] [(0, 1, AV.untag1 a1)] fun a3 =>
  storeK 2 y1 a3 m2 fun a4 m5 =>
  loadK (some 2) y1 m5 fun a6 _ =>
  retK false false m0 [a6] m5
theorem g25_0 (call : CL) (n : Nat) (m0 : Mem) (y0 y1 : AV) (m : Mem) : evK call n b25_0 [(0, y0), (2, y1)] m (fun e m => endK f25 m0 .nrm e m) (endK f25 m0) = G25_0 call n m0 y0 y1 m := by kernel_rfl
def k25_0 (call : CL) (n : Nat) (m0 : Mem) : KN := (fun e m => endK f25 m0 .nrm e m)
def x25_0 (call : CL) (n : Nat) (m0 : Mem) : KX := (endK f25 m0)
def S25_0 (call : CL) (n : Nat) (m0 : Mem) (y0 y1 : AV) (m : Mem) : Rho := G25_0 call n m0 y0 y1 m
def d25_0 (call : CL) (n : Nat) (m0 : Mem) (y0 y1 : AV) (m : Mem) : Rho := evK call n b25_0 [(0, y0), (2, y1)] m (k25_0 call n m0) (x25_0 call n m0)
theorem l25_0 {call : CL} {n : Nat} {m0 : Mem} : d25_0 call n m0 = S25_0 call n m0 := by
  funext y0 y1 m
  have h : d25_0 call n m0 y0 y1 m = G25_0 call n m0 y0 y1 m := Eq.mp (by kernel_rfl) (g25_0 call n m0 y0 y1 m)
  exact h
def G25 (call : CL) (n : Nat) (m0 : Mem) (Q25_0 : Y2) (y0 : AV) (m : Mem) : Rho :=
  newK [(.list .full 0 []), (.bool false)] m fun a0 m1 =>
  binK .lss y0 (.int .i64 0) fun a2 =>
  condK a2
  (callK call (.func 10 [] []) false [(.bool true)] m1 fun a3 m4 =>
  storeK 2 a0 a3 m4 fun a5 m6 =>
  loadK (some 2) a0 m6 fun a7 _ =>
  retK false false m0 [a7] m6)
  (Q25_0 y0 a0 m1)
theorem g25 (call : CL) (n : Nat) (m0 : Mem) (b25_0 : C) (y0 : AV) (m : Mem) : evK call n (c25 b25_0) [(0, y0)] m (fun e m => endK f25 m0 .nrm e m) (endK f25 m0) = G25 call n m0 (fun x0 x1 m => evK call n b25_0 [(0, x0), (2, x1)] m (fun e m => endK f25 m0 .nrm e m) (endK f25 m0)) y0 m := by kernel_rfl
def S25 (call : CL) (n : Nat) (m0 : Mem) (y0 : AV) : Rho := G25 call n m0 (S25_0 call n m0) y0 { m0 with bad := none }
theorem s25 (call : CL) (n : Nat) (m0 : Mem) (y0 : AV) : bodyK call n f25 [y0] m0 = S25 call n m0 y0 :=
  have h : bodyK call n f25 [y0] m0 = G25 call n m0 (d25_0 call n m0) y0 { m0 with bad := none } := Eq.mp (by kernel_rfl) (g25 call n m0 b25_0 y0 { m0 with bad := none })
  by rw [l25_0] at h; exact h
def F25 : SF := fun call n vs m0 => unc vs fun x0 vs => unz vs (S25 call n m0 x0)
theorem F25_ok {orc : List AV → Mem → Option (AV × Mem)} : SOk 25 { f25 with orc := orc } F25 := by
  intro call n vs m0 ho r h0
  simp only [F25] at h0
  obtain ⟨y0, v0, rfl, h1⟩ := unc_some h0
  obtain ⟨rfl, hz⟩ := unz_some h1
  exact bodyK_le ho rfl r (Eq.mp (by kernel_rfl) ((s25 call n m0 y0).trans hz))

end
end Go.Proofs.P16
