/-
  FdNone: of no descriptors each call says so. The given statement whole, no condition of its own.
-/
import Derived.Test.YtdmahionfllhnaaGreatDoorFLem
set_option linter.unusedVariables false
set_option maxRecDepth 100000
namespace Sim
open Go
/-! coxswain/coxswainlaw24.FdNone -/
noncomputable abbrev c9 (p : List Nat) : Code := sub (bodyOf Go.Proofs.Tryz.f9) p
noncomputable abbrev rs9 : List ResultVar := Go.Proofs.Tryz.f9.results.toList
def P9 (a0 : V) (m : Mem) (K : V → Mem → Prop) : Prop :=
Bnd (allocV 50 (V.cells a0) m) fun r0 =>
Bnd (fieldAddrV PP 50 r0.1 4) fun x1 =>
Bnd (loadV PP 9 x1 r0.2) fun x2 =>
Bnd (lenV PP 9 x2 r0.2) fun x3 =>
Bnd (evBin PP EE .gtr 3 x3 (.int .i64 200)) fun x4 =>
Cnd x4 (CallP PP EE OV 15 [] r0.2 fun x5 m6 =>
K x5 m6) (Bnd (fieldAddrV PP 50 r0.1 1) fun x7 =>
Bnd (loadV PP 3 x7 r0.2) fun x8 =>
Bnd (fieldAddrV PP 50 r0.1 4) fun x9 =>
Bnd (loadV PP 9 x9 r0.2) fun x10 =>
Bnd (fieldAddrV PP 50 r0.1 3) fun x11 =>
Bnd (loadV PP 3 x11 r0.2) fun x12 =>
CallP PP EE OV 18 [.nilp, x8, x10, x12] r0.2 fun x13 m14 =>
Bnd (extractV x13 0) fun x15 =>
Bnd (extractV x13 1) fun x16 =>
Bnd (fieldAddrV PP 50 r0.1 1) fun x17 =>
Bnd (loadV PP 3 x17 m14) fun x18 =>
CallP PP EE OV 35 [.nilp, x18] m14 fun x19 m20 =>
Bnd (extractV x19 0) fun x21 =>
Bnd (extractV x19 1) fun x22 =>
Bnd (fieldAddrV PP 50 r0.1 1) fun x23 =>
Bnd (loadV PP 3 x23 m20) fun x24 =>
Bnd (fieldAddrV PP 50 r0.1 2) fun x25 =>
Bnd (loadV PP 3 x25 m20) fun x26 =>
CallP PP EE OV 25 [.nilp, x24, x26] m20 fun x27 m28 =>
Bnd (extractV x27 0) fun x29 =>
Bnd (extractV x27 1) fun x30 =>
Bnd (fieldAddrV PP 50 r0.1 1) fun x31 =>
Bnd (loadV PP 3 x31 m28) fun x32 =>
Bnd (fieldAddrV PP 50 r0.1 2) fun x33 =>
Bnd (loadV PP 3 x33 m28) fun x34 =>
Bnd (fieldAddrV PP 50 r0.1 3) fun x35 =>
Bnd (loadV PP 3 x35 m28) fun x36 =>
CallP PP EE OV 22 [.nilp, x32, x34, x36] m28 fun x37 m38 =>
Bnd (extractV x37 0) fun x39 =>
Bnd (extractV x37 1) fun x40 =>
Bnd (fieldAddrV PP 50 r0.1 1) fun x41 =>
Bnd (loadV PP 3 x41 m38) fun x42 =>
Bnd (fieldAddrV PP 50 r0.1 2) fun x43 =>
Bnd (loadV PP 3 x43 m38) fun x44 =>
CallP PP EE OV 21 [.nilp, x42, x44, .nils] m38 fun x45 m46 =>
Bnd (extractV x45 0) fun x47 =>
Bnd (extractV x45 1) fun x48 =>
Bnd (evBin PP EE .eql 3 x15 (.int .i64 0)) fun x49 =>
GOp x49 true (fun k50 => k50 x16 m46) m46 fun x51 m52 =>
GOp x49 true (fun k53 => Bnd (evBin PP EE .eql 30 x51 (.int .i64 1)) fun x54 =>
k53 x54 m52) m52 fun x55 m56 =>
pickP x49 (some x55) (some (.bool false)) fun x57 =>
GOp x57 true (fun k58 => k58 x21 m56) m56 fun x59 m60 =>
GOp x57 true (fun k61 => Bnd (evBin PP EE .eql 3 x59 (.int .i64 0)) fun x62 =>
k61 x62 m60) m60 fun x63 m64 =>
pickP x57 (some x63) (some (.bool false)) fun x65 =>
GOp x65 true (fun k66 => k66 x22 m64) m64 fun x67 m68 =>
GOp x65 true (fun k69 => Bnd (evBin PP EE .eql 30 x67 (.int .i64 1)) fun x70 =>
k69 x70 m68) m68 fun x71 m72 =>
pickP x65 (some x71) (some (.bool false)) fun x73 =>
GOp x73 true (fun k74 => k74 x29 m72) m72 fun x75 m76 =>
GOp x73 true (fun k77 => Bnd (evBin PP EE .eql 3 x75 (.int .i64 0)) fun x78 =>
k77 x78 m76) m76 fun x79 m80 =>
pickP x73 (some x79) (some (.bool false)) fun x81 =>
GOp x81 true (fun k82 => k82 x30 m80) m80 fun x83 m84 =>
GOp x81 true (fun k85 => Bnd (evBin PP EE .eql 30 x83 (.int .i64 1)) fun x86 =>
k85 x86 m84) m84 fun x87 m88 =>
pickP x81 (some x87) (some (.bool false)) fun x89 =>
GOp x89 true (fun k90 => k90 x39 m88) m88 fun x91 m92 =>
GOp x89 true (fun k93 => Bnd (lenV PP 34 x91 m92) fun x94 =>
k93 x94 m92) m92 fun x95 m96 =>
GOp x89 true (fun k97 => Bnd (evBin PP EE .eql 3 x95 (.int .i64 0)) fun x98 =>
k97 x98 m96) m96 fun x99 m100 =>
pickP x89 (some x99) (some (.bool false)) fun x101 =>
GOp x101 true (fun k102 => k102 x40 m100) m100 fun x103 m104 =>
GOp x101 true (fun k105 => Bnd (evBin PP EE .eql 30 x103 (.int .i64 1)) fun x106 =>
k105 x106 m104) m104 fun x107 m108 =>
pickP x101 (some x107) (some (.bool false)) fun x109 =>
GOp x109 true (fun k110 => k110 x47 m108) m108 fun x111 m112 =>
GOp x109 true (fun k113 => Bnd (evBin PP EE .eql 3 x111 (.int .i64 0)) fun x114 =>
k113 x114 m112) m112 fun x115 m116 =>
pickP x109 (some x115) (some (.bool false)) fun x117 =>
GOp x117 true (fun k118 => k118 x48 m116) m116 fun x119 m120 =>
GOp x117 true (fun k121 => Bnd (evBin PP EE .eql 30 x119 (.int .i64 1)) fun x122 =>
k121 x122 m120) m120 fun x123 m124 =>
pickP x117 (some x123) (some (.bool false)) fun x125 =>
GOp x125 true (fun k126 => k126 .nilp m124) m124 fun x127 m128 =>
GOp x125 true (fun k129 => CallP PP EE OV 17 [x127, (.int .i64 1)] m128 fun x130 m131 =>
k129 x130 m131) m128 fun x132 m133 =>
GOp x125 true (fun k134 => Bnd (evBin PP EE .eql 30 x132 (.int .i64 1)) fun x135 =>
k134 x135 m133) m133 fun x136 m137 =>
pickP x125 (some x136) (some (.bool false)) fun x138 =>
GOp x138 true (fun k139 => k139 .nilp m137) m137 fun x140 m141 =>
GOp x138 true (fun k142 => CallP PP EE OV 24 [x140, (.int .i64 1), (.int .i64 2)] m141 fun x143 m144 =>
k142 x143 m144) m141 fun x145 m146 =>
GOp x138 true (fun k147 => Bnd (evBin PP EE .eql 30 x145 (.int .i64 1)) fun x148 =>
k147 x148 m146) m146 fun x149 m150 =>
pickP x138 (some x149) (some (.bool false)) fun x151 =>
GOp x151 true (fun k152 => k152 .nilp m150) m150 fun x153 m154 =>
GOp x151 true (fun k155 => CallP PP EE OV 36 [x153, (.int .i64 1)] m154 fun x156 m157 =>
k155 x156 m157) m154 fun x158 m159 =>
GOp x151 true (fun k160 => Bnd (evBin PP EE .eql 30 x158 (.int .i64 1)) fun x161 =>
k160 x161 m159) m159 fun x162 m163 =>
pickP x151 (some x162) (some (.bool false)) fun x164 =>
GOp x164 true (fun k165 => k165 .nilp m163) m163 fun x166 m167 =>
GOp x164 true (fun k168 => CallP PP EE OV 27 [x166, (.int .i64 1), (.int .i64 1)] m167 fun x169 m170 =>
k168 x169 m170) m167 fun x171 m172 =>
GOp x164 true (fun k173 => Bnd (evBin PP EE .eql 30 x171 (.int .i64 1)) fun x174 =>
k173 x174 m172) m172 fun x175 m176 =>
pickP x164 (some x175) (some (.bool false)) fun x177 =>
GOp x177 true (fun k178 => k178 .nilp m176) m176 fun x179 m180 =>
GOp x177 true (fun k181 => CallP PP EE OV 19 [x179, (.int .i64 1), (.int .i64 1), (.int .i64 1)] m180 fun x182 m183 =>
k181 x182 m183) m180 fun x184 m185 =>
GOp x177 true (fun k186 => Bnd (evBin PP EE .eql 30 x184 (.int .i64 1)) fun x187 =>
k186 x187 m185) m185 fun x188 m189 =>
pickP x177 (some x188) (some (.bool false)) fun x190 =>
GOp x190 true (fun k191 => k191 .nilp m189) m189 fun x192 m193 =>
GOp x190 true (fun k194 => CallP PP EE OV 28 [x192, (.int .i64 1)] m193 fun x195 m196 =>
k194 x195 m196) m193 fun x197 m198 =>
GOp x190 true (fun k199 => Bnd (lenV PP 51 x197 m198) fun x200 =>
k199 x200 m198) m198 fun x201 m202 =>
GOp x190 true (fun k203 => Bnd (evBin PP EE .eql 3 x201 (.int .i64 0)) fun x204 =>
k203 x204 m202) m202 fun x205 m206 =>
pickP x190 (some x205) (some (.bool false)) fun x207 =>
GOp x207 true (fun k208 => CallP PP EE OV 15 [] m206 fun x209 m210 =>
k208 x209 m210) m206 fun x211 m212 =>
pickP x207 (some x211) (some (.bool false)) fun x213 =>
K x213 m212)
theorem r9 (a0 : V) (m : Mem) (K : V → Mem → Prop) (h : P9 a0 m K) : CallP PP EE OV 9 [a0] m K := by
  have e : WB PP EE OV Go.Proofs.Tryz.f9 [a0] m K = P9 a0 m K := by kernel_rfl
  exact WB_sound PP EE OV Go.Proofs.Tryz.func9 (by kernel_rfl) rfl (e.mpr h)



@[simp] theorem nil18 (a b c : V) (m : Mem) (K : V → Mem → Prop) : CallP PP EE OV 18 [.nilp, a, b, c] m K = K (.tup [.int .i64 0, .int .i64 1]) m := CallP_eq (k := 10) (by kernel_rfl) K
@[simp] theorem nil35 (a : V) (m : Mem) (K : V → Mem → Prop) : CallP PP EE OV 35 [.nilp, a] m K = K (.tup [.int .i64 0, .int .i64 1]) m := CallP_eq (k := 10) (by kernel_rfl) K
@[simp] theorem nil25 (a b : V) (m : Mem) (K : V → Mem → Prop) : CallP PP EE OV 25 [.nilp, a, b] m K = K (.tup [.int .i64 0, .int .i64 1]) m := CallP_eq (k := 10) (by kernel_rfl) K
@[simp] theorem nil22 (a b c : V) (m : Mem) (K : V → Mem → Prop) : CallP PP EE OV 22 [.nilp, a, b, c] m K = K (.tup [.nils, .int .i64 1]) m := CallP_eq (k := 10) (by kernel_rfl) K
@[simp] theorem nil21 (a b c : V) (m : Mem) (K : V → Mem → Prop) : CallP PP EE OV 21 [.nilp, a, b, c] m K = K (.tup [.int .i64 0, .int .i64 1]) m := CallP_eq (k := 10) (by kernel_rfl) K
@[simp] theorem nil17 (a : V) (m : Mem) (K : V → Mem → Prop) : CallP PP EE OV 17 [.nilp, a] m K = K (.int .i64 1) m := CallP_eq (k := 10) (by kernel_rfl) K
@[simp] theorem nil19 (a b c : V) (m : Mem) (K : V → Mem → Prop) : CallP PP EE OV 19 [.nilp, a, b, c] m K = K (.int .i64 1) m := CallP_eq (k := 10) (by kernel_rfl) K
@[simp] theorem nil24 (a b : V) (m : Mem) (K : V → Mem → Prop) : CallP PP EE OV 24 [.nilp, a, b] m K = K (.int .i64 1) m := CallP_eq (k := 10) (by kernel_rfl) K
@[simp] theorem nil27 (a b : V) (m : Mem) (K : V → Mem → Prop) : CallP PP EE OV 27 [.nilp, a, b] m K = K (.int .i64 1) m := CallP_eq (k := 10) (by kernel_rfl) K
@[simp] theorem nil28 (a : V) (m : Mem) (K : V → Mem → Prop) : CallP PP EE OV 28 [.nilp, a] m K = K (.nils) m := CallP_eq (k := 10) (by kernel_rfl) K
@[simp] theorem nil36 (a : V) (m : Mem) (K : V → Mem → Prop) : CallP PP EE OV 36 [.nilp, a] m K = K (.int .i64 1) m := CallP_eq (k := 10) (by kernel_rfl) K
@[simp] theorem aw15 (m : Mem) (K : V → Mem → Prop) : CallP PP EE OV 15 [] m K = K (.bool true) m := CallP_eq (k := 1) rfl K

theorem none_law (x0 x1 x2 x3 : Int) (s : List UInt8) (v : V) (m : Mem) (K : V → Mem → Prop) (h : ∀ m', K (.bool true) m') : CallP PP EE OV 9 [.agg [.int .i64 x0, .int .i64 x1, .int .i64 x2, .int .i64 x3, .str s, v]] m K := by
  apply r9
  unfold P9
  by_cases hs : s.length > 200
  · simp -implicitDefEqProofs [V.cells, Cnd_bool, h]
  · simp -implicitDefEqProofs [V.cells, Cnd_bool, h]

end Sim
