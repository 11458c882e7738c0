/-
  UnixNone: of no system each call says so. The given statement whole, no condition of its own.
-/
import Derived.Test.YtdmahionfllhnaaGreatDoorFLem
set_option linter.unusedVariables false
set_option maxRecDepth 100000
namespace Sim
open Go
/-! coxswain/coxswainlaw27.UnixNone -/
noncomputable abbrev c14 (p : List Nat) : Code := sub (bodyOf Go.Proofs.Tryz.f14) p
noncomputable abbrev rs14 : List ResultVar := Go.Proofs.Tryz.f14.results.toList
def P14 (a0 : V) (m : Mem) (K : V → Mem → Prop) : Prop :=
Bnd (allocV 72 (V.cells a0) m) fun r0 =>
Bnd (fieldAddrV PP 72 r0.1 3) fun x1 =>
Bnd (fieldAddrV PP 70 x1 3) fun x2 =>
Bnd (loadV PP 9 x2 r0.2) fun x3 =>
Bnd (lenV PP 9 x3 r0.2) fun x4 =>
Bnd (evBin PP EE .gtr 3 x4 (.int .i64 600)) fun x5 =>
GOp x5 false (fun k6 => Bnd (fieldAddrV PP 72 r0.1 3) fun x7 =>
k6 x7 r0.2) r0.2 fun x8 m9 =>
GOp x5 false (fun k10 => Bnd (fieldAddrV PP 70 x8 4) fun x11 =>
k10 x11 m9) m9 fun x12 m13 =>
GOp x5 false (fun k14 => Bnd (loadV PP 9 x12 m13) fun x15 =>
k14 x15 m13) m13 fun x16 m17 =>
GOp x5 false (fun k18 => Bnd (lenV PP 9 x16 m17) fun x19 =>
k18 x19 m17) m17 fun x20 m21 =>
GOp x5 false (fun k22 => Bnd (evBin PP EE .gtr 3 x20 (.int .i64 600)) fun x23 =>
k22 x23 m21) m21 fun x24 m25 =>
pickP x5 (some (.bool true)) (some x24) fun x26 =>
Cnd x26 (CallP PP EE OV 38 [] m25 fun x27 m28 =>
K x27 m28) (Bnd (fieldAddrV PP 72 r0.1 1) fun x29 =>
Bnd (loadV PP 3 x29 m25) fun x30 =>
Bnd (fieldAddrV PP 72 r0.1 3) fun x31 =>
Bnd (loadV PP 70 x31 m25) fun x32 =>
CallP PP EE OV 41 [.nilp, x30, x32] m25 fun x33 m34 =>
Bnd (buildV PP 67 [(0, (.int .i64 1))]) fun x35 =>
Bnd (evBin PP EE .eql 67 x33 x35) fun x36 =>
GOp x36 true (fun k37 => k37 .nilp m34) m34 fun x38 m39 =>
GOp x36 true (fun k40 => CallP PP EE OV 40 [x38, (.int .i64 1)] m39 fun x41 m42 =>
k40 x41 m42) m39 fun x43 m44 =>
GOp x36 true (fun k45 => Bnd (evBin PP EE .eql 30 x43 (.int .i64 1)) fun x46 =>
k45 x46 m44) m44 fun x47 m48 =>
pickP x36 (some x47) (some (.bool false)) fun x49 =>
GOp x49 true (fun k50 => k50 .nilp m48) m48 fun x51 m52 =>
GOp x49 true (fun k53 => CallP PP EE OV 42 [x51, (.int .i64 1), (.int .i64 2)] m52 fun x54 m55 =>
k53 x54 m55) m52 fun x56 m57 =>
GOp x49 true (fun k58 => Bnd (evBin PP EE .eql 30 x56 (.int .i64 1)) fun x59 =>
k58 x59 m57) m57 fun x60 m61 =>
pickP x49 (some x60) (some (.bool false)) fun x62 =>
GOp x62 true (fun k63 => k63 .nilp m61) m61 fun x64 m65 =>
GOp x62 true (fun k66 => CallP PP EE OV 43 [x64, (.int .i64 1), (.int .i64 0)] m65 fun x67 m68 =>
k66 x67 m68) m65 fun x69 m70 =>
GOp x62 true (fun k71 => Bnd (evBin PP EE .eql 30 x69 (.int .i64 1)) fun x72 =>
k71 x72 m70) m70 fun x73 m74 =>
pickP x62 (some x73) (some (.bool false)) fun x75 =>
GOp x75 true (fun k76 => k76 .nilp m74) m74 fun x77 m78 =>
GOp x75 true (fun k79 => CallP PP EE OV 52 [x77] m78 fun x80 m81 =>
k79 x80 m81) m78 fun x82 m83 =>
GOp x75 true (fun k84 => Bnd (evBin PP EE .eql 24 x82 .nilp) fun x85 =>
k84 x85 m83) m83 fun x86 m87 =>
pickP x75 (some x86) (some (.bool false)) fun x88 =>
GOp x88 true (fun k89 => k89 .nilp m87) m87 fun x90 m91 =>
GOp x88 true (fun k92 => CallP PP EE OV 49 [x90] m91 fun x93 m94 =>
k92 x93 m94) m91 fun x95 m96 =>
GOp x88 true (fun k97 => Bnd (evBin PP EE .eql 86 x95 .nilp) fun x98 =>
k97 x98 m96) m96 fun x99 m100 =>
pickP x88 (some x99) (some (.bool false)) fun x101 =>
GOp x101 true (fun k102 => k102 .nilp m100) m100 fun x103 m104 =>
GOp x101 true (fun k105 => CallP PP EE OV 53 [x103] m104 fun x106 m107 =>
k105 x106 m107) m104 fun x108 m109 =>
GOp x101 true (fun k110 => Bnd (evBin PP EE .eql 93 x108 .nilp) fun x111 =>
k110 x111 m109) m109 fun x112 m113 =>
pickP x101 (some x112) (some (.bool false)) fun x114 =>
GOp x114 true (fun k115 => k115 .nilp m113) m113 fun x116 m117 =>
GOp x114 true (fun k118 => CallP PP EE OV 45 [x116] m117 fun x119 m120 =>
k118 x119 m120) m117 fun x121 m122 =>
GOp x114 true (fun k123 => Bnd (evBin PP EE .eql 3 x121 (.int .i64 0)) fun x124 =>
k123 x124 m122) m122 fun x125 m126 =>
pickP x114 (some x125) (some (.bool false)) fun x127 =>
GOp x127 true (fun k128 => CallP PP EE OV 38 [] m126 fun x129 m130 =>
k128 x129 m130) m126 fun x131 m132 =>
pickP x127 (some x131) (some (.bool false)) fun x133 =>
K x133 m132)
theorem r14 (a0 : V) (m : Mem) (K : V → Mem → Prop) (h : P14 a0 m K) : CallP PP EE OV 14 [a0] m K := by
  have e : WB PP EE OV Go.Proofs.Tryz.f14 [a0] m K = P14 a0 m K := by kernel_rfl
  exact WB_sound PP EE OV Go.Proofs.Tryz.func14 (by kernel_rfl) rfl (e.mpr h)


/-! (*coxswain/unix.System).Do -/
noncomputable abbrev c41 (p : List Nat) : Code := sub (bodyOf Go.Proofs.Tryz.f41) p
noncomputable abbrev rs41 : List ResultVar := Go.Proofs.Tryz.f41.results.toList
def P41 (a0 a1 a2 : V) (m : Mem) (K : V → Mem → Prop) : Prop :=
Bnd (allocV 70 (V.cells a2) m) fun r0 =>
Bnd (allocV 67 [(.int .i64 0), (.int .i64 0), (.str [])] r0.2) fun r1 =>
Bnd (evBin PP EE .eql 63 a0 .nilp) fun x2 =>
Cnd x2 (Bnd (buildV PP 67 [(0, (.int .i64 1))]) fun x3 =>
Bnd (storeV PP 67 r1.1 x3 r1.2) fun m4 =>
Bnd (loadV PP 67 r1.1 m4) fun x5 =>
K x5 m4) (Bnd (nilCheckV a0) fun x6 =>
Bnd (fieldAddrV PP 170 x6 3) fun x7 =>
Bnd (loadV PP 86 x7 r1.2) fun x8 =>
CallP PP EE OV 50 [x8, a1] r1.2 fun x9 m10 =>
Bnd (evUn .not x9) fun x11 =>
Cnd x11 (Bnd (buildV PP 67 [(0, (.int .i64 4))]) fun x12 =>
Bnd (storeV PP 67 r1.1 x12 m10) fun m13 =>
Bnd (loadV PP 67 r1.1 m13) fun x14 =>
K x14 m13) (Bnd (loadV PP 70 r0.1 m10) fun x15 =>
CallP PP EE OV 92 [x15] m10 fun x16 m17 =>
Bnd (evUn .not x16) fun x18 =>
Cnd x18 (Bnd (buildV PP 67 [(0, (.int .i64 19))]) fun x19 =>
Bnd (storeV PP 67 r1.1 x19 m17) fun m20 =>
Bnd (loadV PP 67 r1.1 m20) fun x21 =>
K x21 m20) (Bnd (fieldAddrV PP 70 r0.1 0) fun x22 =>
Bnd (loadV PP 3 x22 m17) fun x23 =>
Bnd (evBin PP EE .eql 3 x23 (.int .i64 1)) fun x24 =>
Cnd x24 (Bnd (nilCheckV a0) fun x25 =>
Bnd (fieldAddrV PP 170 x25 2) fun x26 =>
Bnd (loadV PP 24 x26 m17) fun x27 =>
Bnd (fieldAddrV PP 70 r0.1 3) fun x28 =>
Bnd (loadV PP 9 x28 m17) fun x29 =>
Bnd (fieldAddrV PP 70 r0.1 1) fun x30 =>
Bnd (loadV PP 3 x30 m17) fun x31 =>
CallP PP EE OV 18 [x27, a1, x29, x31] m17 fun x32 m33 =>
Bnd (extractV x32 0) fun x34 =>
Bnd (extractV x32 1) fun x35 =>
CallP PP EE OV 93 [x34, x35] m33 fun x36 m37 =>
Bnd (storeV PP 67 r1.1 x36 m37) fun m38 =>
Bnd (loadV PP 67 r1.1 m38) fun x39 =>
K x39 m38) (Bnd (evBin PP EE .eql 3 x23 (.int .i64 2)) fun x40 =>
Cnd x40 (Bnd (nilCheckV a0) fun x41 =>
Bnd (fieldAddrV PP 170 x41 2) fun x42 =>
Bnd (loadV PP 24 x42 m17) fun x43 =>
Bnd (fieldAddrV PP 70 r0.1 1) fun x44 =>
Bnd (loadV PP 3 x44 m17) fun x45 =>
CallP PP EE OV 27 [x43, a1, x45] m17 fun x46 m47 =>
CallP PP EE OV 93 [(.int .i64 0), x46] m47 fun x48 m49 =>
Bnd (storeV PP 67 r1.1 x48 m49) fun m50 =>
Bnd (loadV PP 67 r1.1 m50) fun x51 =>
K x51 m50) (Bnd (evBin PP EE .eql 3 x23 (.int .i64 3)) fun x52 =>
Cnd x52 (Bnd (loadV PP 70 r0.1 m17) fun x53 =>
CallP PP EE OV 94 [a0, a1, x53] m17 fun x54 m55 =>
Bnd (storeV PP 67 r1.1 x54 m55) fun m56 =>
Bnd (loadV PP 67 r1.1 m56) fun x57 =>
K x57 m56) (Bnd (evBin PP EE .eql 3 x23 (.int .i64 4)) fun x58 =>
Cnd x58 (Bnd (nilCheckV a0) fun x59 =>
Bnd (fieldAddrV PP 170 x59 2) fun x60 =>
Bnd (loadV PP 24 x60 m17) fun x61 =>
Bnd (fieldAddrV PP 70 r0.1 1) fun x62 =>
Bnd (loadV PP 3 x62 m17) fun x63 =>
Bnd (fieldAddrV PP 70 r0.1 3) fun x64 =>
Bnd (loadV PP 9 x64 m17) fun x65 =>
Bnd (bytesV PP 9 34 x65 m17) fun r66 =>
CallP PP EE OV 21 [x61, a1, x63, r66.1] r66.2 fun x67 m68 =>
Bnd (extractV x67 0) fun x69 =>
Bnd (extractV x67 1) fun x70 =>
CallP PP EE OV 93 [x69, x70] m68 fun x71 m72 =>
Bnd (storeV PP 67 r1.1 x71 m72) fun m73 =>
Bnd (loadV PP 24 x60 r66.2) fun x74 =>
x74 = x61 ∧ (Bnd (loadV PP 3 x62 r66.2) fun x75 =>
x75 = x63 ∧ (Bnd (loadV PP 67 r1.1 m73) fun x76 =>
K x76 m73))) (Bnd (evBin PP EE .eql 3 x23 (.int .i64 5)) fun x77 =>
Cnd x77 (Bnd (nilCheckV a0) fun x78 =>
Bnd (fieldAddrV PP 170 x78 2) fun x79 =>
Bnd (loadV PP 24 x79 m17) fun x80 =>
Bnd (fieldAddrV PP 70 r0.1 1) fun x81 =>
Bnd (loadV PP 3 x81 m17) fun x82 =>
Bnd (fieldAddrV PP 70 r0.1 2) fun x83 =>
Bnd (loadV PP 3 x83 m17) fun x84 =>
CallP PP EE OV 19 [x80, a1, x82, x84] m17 fun x85 m86 =>
CallP PP EE OV 93 [(.int .i64 0), x85] m86 fun x87 m88 =>
Bnd (storeV PP 67 r1.1 x87 m88) fun m89 =>
Bnd (loadV PP 67 r1.1 m89) fun x90 =>
K x90 m89) (Bnd (evBin PP EE .eql 3 x23 (.int .i64 6)) fun x91 =>
Cnd x91 (Bnd (nilCheckV a0) fun x92 =>
Bnd (fieldAddrV PP 170 x92 2) fun x93 =>
Bnd (loadV PP 24 x93 m17) fun x94 =>
Bnd (fieldAddrV PP 70 r0.1 1) fun x95 =>
Bnd (loadV PP 3 x95 m17) fun x96 =>
CallP PP EE OV 25 [x94, a1, x96] m17 fun x97 m98 =>
Bnd (extractV x97 0) fun x99 =>
Bnd (extractV x97 1) fun x100 =>
CallP PP EE OV 93 [x99, x100] m98 fun x101 m102 =>
Bnd (storeV PP 67 r1.1 x101 m102) fun m103 =>
Bnd (loadV PP 67 r1.1 m103) fun x104 =>
K x104 m103) (Bnd (evBin PP EE .eql 3 x23 (.int .i64 7)) fun x105 =>
Cnd x105 (Bnd (nilCheckV a0) fun x106 =>
Bnd (fieldAddrV PP 170 x106 1) fun x107 =>
Bnd (loadV PP 93 x107 m17) fun x108 =>
Bnd (fieldAddrV PP 70 r0.1 3) fun x109 =>
Bnd (loadV PP 9 x109 m17) fun x110 =>
Bnd (fieldAddrV PP 70 r0.1 4) fun x111 =>
Bnd (loadV PP 9 x111 m17) fun x112 =>
CallP PP EE OV 95 [x108, x110, x112] m17 fun x113 m114 =>
CallP PP EE OV 93 [(.int .i64 0), x113] m114 fun x115 m116 =>
Bnd (storeV PP 67 r1.1 x115 m116) fun m117 =>
Bnd (loadV PP 67 r1.1 m117) fun x118 =>
K x118 m117) (Bnd (evBin PP EE .eql 3 x23 (.int .i64 8)) fun x119 =>
Cnd x119 (Bnd (nilCheckV a0) fun x120 =>
Bnd (fieldAddrV PP 170 x120 1) fun x121 =>
Bnd (loadV PP 93 x121 m17) fun x122 =>
Bnd (fieldAddrV PP 70 r0.1 3) fun x123 =>
Bnd (loadV PP 9 x123 m17) fun x124 =>
CallP PP EE OV 96 [x122, x124] m17 fun x125 m126 =>
CallP PP EE OV 93 [(.int .i64 0), x125] m126 fun x127 m128 =>
Bnd (storeV PP 67 r1.1 x127 m128) fun m129 =>
Bnd (loadV PP 67 r1.1 m129) fun x130 =>
K x130 m129) (Bnd (evBin PP EE .eql 3 x23 (.int .i64 9)) fun x131 =>
Cnd x131 (Bnd (nilCheckV a0) fun x132 =>
Bnd (fieldAddrV PP 170 x132 1) fun x133 =>
Bnd (loadV PP 93 x133 m17) fun x134 =>
Bnd (fieldAddrV PP 70 r0.1 3) fun x135 =>
Bnd (loadV PP 9 x135 m17) fun x136 =>
CallP PP EE OV 97 [x134, x136] m17 fun x137 m138 =>
CallP PP EE OV 93 [(.int .i64 0), x137] m138 fun x139 m140 =>
Bnd (storeV PP 67 r1.1 x139 m140) fun m141 =>
Bnd (loadV PP 67 r1.1 m141) fun x142 =>
K x142 m141) (Bnd (evBin PP EE .eql 3 x23 (.int .i64 10)) fun x143 =>
Cnd x143 (Bnd (nilCheckV a0) fun x144 =>
Bnd (fieldAddrV PP 170 x144 1) fun x145 =>
Bnd (loadV PP 93 x145 m17) fun x146 =>
Bnd (fieldAddrV PP 70 r0.1 3) fun x147 =>
Bnd (loadV PP 9 x147 m17) fun x148 =>
CallP PP EE OV 98 [x146, x148] m17 fun x149 m150 =>
CallP PP EE OV 93 [(.int .i64 0), x149] m150 fun x151 m152 =>
Bnd (storeV PP 67 r1.1 x151 m152) fun m153 =>
Bnd (loadV PP 67 r1.1 m153) fun x154 =>
K x154 m153) (Bnd (evBin PP EE .eql 3 x23 (.int .i64 11)) fun x155 =>
Cnd x155 (Bnd (nilCheckV a0) fun x156 =>
Bnd (fieldAddrV PP 170 x156 2) fun x157 =>
Bnd (loadV PP 24 x157 m17) fun x158 =>
CallP PP EE OV 35 [x158, a1] m17 fun x159 m160 =>
Bnd (extractV x159 0) fun x161 =>
Bnd (extractV x159 1) fun x162 =>
CallP PP EE OV 93 [x161, x162] m160 fun x163 m164 =>
Bnd (storeV PP 67 r1.1 x163 m164) fun m165 =>
Bnd (loadV PP 67 r1.1 m165) fun x166 =>
K x166 m165) (Bnd (evBin PP EE .eql 3 x23 (.int .i64 12)) fun x167 =>
Cnd x167 (Bnd (loadV PP 70 r0.1 m17) fun x168 =>
CallP PP EE OV 99 [a0, x168] m17 fun x169 m170 =>
Bnd (storeV PP 67 r1.1 x169 m170) fun m171 =>
Bnd (loadV PP 67 r1.1 m171) fun x172 =>
K x172 m171) (Bnd (evBin PP EE .eql 3 x23 (.int .i64 13)) fun x173 =>
Cnd x173 (Bnd (loadV PP 70 r0.1 m17) fun x174 =>
CallP PP EE OV 100 [a0, x174] m17 fun x175 m176 =>
Bnd (storeV PP 67 r1.1 x175 m176) fun m177 =>
Bnd (loadV PP 67 r1.1 m177) fun x178 =>
K x178 m177) (Bnd (evBin PP EE .eql 3 x23 (.int .i64 16)) fun x179 =>
Cnd x179 (CallP PP EE OV 101 [a0, a1] m17 fun x180 m181 =>
Bnd (storeV PP 67 r1.1 x180 m181) fun m182 =>
Bnd (loadV PP 67 r1.1 m182) fun x183 =>
K x183 m182) (Bnd (evBin PP EE .eql 3 x23 (.int .i64 17)) fun x184 =>
Cnd x184 (CallP PP EE OV 93 [a1, (.int .i64 0)] m17 fun x185 m186 =>
Bnd (storeV PP 67 r1.1 x185 m186) fun m187 =>
Bnd (loadV PP 67 r1.1 m187) fun x188 =>
K x188 m187) (Bnd (buildV PP 67 [(0, (.int .i64 19))]) fun x189 =>
Bnd (storeV PP 67 r1.1 x189 m17) fun m190 =>
Bnd (loadV PP 67 r1.1 m190) fun x191 =>
K x191 m190))))))))))))))))))
theorem r41 (a0 a1 a2 : V) (m : Mem) (K : V → Mem → Prop) (h : P41 a0 a1 a2 m K) : CallP PP EE OV 41 [a0, a1, a2] m K := by
  have e : WB PP EE OV Go.Proofs.Tryz.f41 [a0, a1, a2] m K = P41 a0 a1 a2 m K := by kernel_rfl
  exact WB_sound PP EE OV Go.Proofs.Tryz.func41 (by kernel_rfl) rfl (e.mpr h)



@[simp] theorem nil40 (a : V) (m : Mem) (K : V → Mem → Prop) : CallP PP EE OV 40 [.nilp, a] m K = K (.int .i64 1) m := CallP_eq (k := 10) (by kernel_rfl) K
@[simp] theorem nil42 (a b : V) (m : Mem) (K : V → Mem → Prop) : CallP PP EE OV 42 [.nilp, a, b] m K = K (.int .i64 1) m := CallP_eq (k := 10) (by kernel_rfl) K
@[simp] theorem nil43 (a b : V) (m : Mem) (K : V → Mem → Prop) : CallP PP EE OV 43 [.nilp, a, b] m K = K (.int .i64 1) m := CallP_eq (k := 10) (by kernel_rfl) K
@[simp] theorem nil52 (m : Mem) (K : V → Mem → Prop) : CallP PP EE OV 52 [.nilp] m K = K (.nilp) m := CallP_eq (k := 10) (by kernel_rfl) K
@[simp] theorem nil49 (m : Mem) (K : V → Mem → Prop) : CallP PP EE OV 49 [.nilp] m K = K (.nilp) m := CallP_eq (k := 10) (by kernel_rfl) K
@[simp] theorem nil53 (m : Mem) (K : V → Mem → Prop) : CallP PP EE OV 53 [.nilp] m K = K (.nilp) m := CallP_eq (k := 10) (by kernel_rfl) K
@[simp] theorem nil45 (m : Mem) (K : V → Mem → Prop) : CallP PP EE OV 45 [.nilp] m K = K (.int .i64 0) m := CallP_eq (k := 10) (by kernel_rfl) K
@[simp] theorem aw38 (m : Mem) (K : V → Mem → Prop) : CallP PP EE OV 38 [] m K = K (.bool true) m := CallP_eq (k := 1) rfl K

theorem nil41 (p : V) (c : List V) (m : Mem) (K : V → Mem → Prop) (h : ∀ m', K (.agg [.int .i64 1, .int .i64 0, .str []]) m') : CallP PP EE OV 41 [.nilp, p, .agg c] m K := by
  apply r41
  unfold P41
  simp -implicitDefEqProofs [fillV, splice, stN, V.one, h]

theorem none_law (x0 x1 x2 x3 x4 x5 : Int) (s u : List UInt8) (m : Mem) (K : V → Mem → Prop) (h : ∀ m', K (.bool true) m') : CallP PP EE OV 14 [.agg [.int .i64 x0, .int .i64 x1, .int .i64 x2, .int .i64 x3, .int .i64 x4, .int .i64 x5, .str s, .str u]] m K := by
  apply r14
  unfold P14
  by_cases hs : (600 : Int) < s.length
  · simp -implicitDefEqProofs [Cnd_bool, hs, h]
  · by_cases hu : (600 : Int) < u.length
    · simp -implicitDefEqProofs [Cnd_bool, hs, hu, h]
    · simp -implicitDefEqProofs [Cnd_bool, hs, hu]
      apply nil41
      intro m'
      simp -implicitDefEqProofs [EE, eqCells, eqCell, fillV, splice, h]

end Sim
