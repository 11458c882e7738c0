/-
  What this seat's types are, as equations to rewrite by. No condition.
-/
import Derived.Test.YtdmahionfllhnaaGreatDoorFHead
import Derived.Test.YtdmahionfllhnaaGreatDoorSimM
set_option linter.unusedVariables false
set_option maxRecDepth 100000
namespace Sim
open Go
def stN (n : Nat) (m : Mem) (b off : Nat) (v : V) : Option Mem :=
  match m.wr b with
  | some c => if v.cells.length = n ∧ v.cells.all V.one = true ∧ off + n ≤ c.length then some (m.set b (.cells (splice c off v.cells))) else none
  | none => none

theorem sz_3 : szT PP 3 = some 1 := by kernel_rfl
theorem sz_4 : szT PP 4 = some 1 := by kernel_rfl
theorem sz_5 : szT PP 5 = some 1 := by kernel_rfl
theorem sz_9 : szT PP 9 = some 1 := by kernel_rfl
theorem sz_34 : szT PP 34 = some 1 := by kernel_rfl
theorem sz_50 : szT PP 50 = some 6 := by kernel_rfl
theorem sz_51 : szT PP 51 = some 1 := by kernel_rfl
theorem sz_67 : szT PP 67 = some 3 := by kernel_rfl
theorem sz_70 : szT PP 70 = some 5 := by kernel_rfl
theorem sz_72 : szT PP 72 = some 8 := by kernel_rfl
theorem sz_91 : szT PP 91 = some 1 := by kernel_rfl
theorem sz_107 : szT PP 107 = some 1 := by kernel_rfl
theorem sz_111 : szT PP 111 = some 3 := by kernel_rfl
theorem sz_113 : szT PP 113 = some 7 := by kernel_rfl
theorem sz_118 : szT PP 118 = some 1 := by kernel_rfl
theorem sz_131 : szT PP 131 = some 1 := by kernel_rfl
theorem sz_133 : szT PP 133 = some 8 := by kernel_rfl
theorem sz_165 : szT PP 165 = some 8 := by kernel_rfl
theorem sz_167 : szT PP 167 = some 9 := by kernel_rfl
theorem sz_177 : szT PP 177 = some 1 := by kernel_rfl
theorem sz_181 : szT PP 181 = some 3 := by kernel_rfl
theorem sz_187 : szT PP 187 = some 4 := by kernel_rfl
theorem sz_193 : szT PP 193 = some 1 := by kernel_rfl
theorem sz_196 : szT PP 196 = some 1 := by kernel_rfl
theorem sz_205 : szT PP 205 = some 1 := by kernel_rfl
theorem sz_221 : szT PP 221 = some 3 := by kernel_rfl
theorem sz_231 : szT PP 231 = some 6 := by kernel_rfl
theorem sz_253 : szT PP 253 = some 4 := by kernel_rfl
theorem sz_257 : szT PP 257 = some 2 := by kernel_rfl
theorem sz_275 : szT PP 275 = some 5 := by kernel_rfl
theorem sz_282 : szT PP 282 = some 64 := by kernel_rfl
theorem sz_308 : szT PP 308 = some 3 := by kernel_rfl
theorem sz_342 : szT PP 342 = some 6 := by kernel_rfl
theorem sz_358 : szT PP 358 = some 1 := by kernel_rfl
theorem sz_381 : szT PP 381 = some 1 := by kernel_rfl
theorem storeV_eq {t n : Nat} (h : szT PP t = some n) (b off : Nat) (v : V) (m : Mem) : storeV PP t (.ptr b off) v m = stN n m b off v := by
  unfold storeV stN
  simp only [h]
  cases m.wr b <;> rfl
@[simp] theorem ld_3 (b off : Nat) (m : Mem) : loadV PP 3 (.ptr b off) m = cell m b off := by kernel_rfl
@[simp] theorem ld_4 (b off : Nat) (m : Mem) : loadV PP 4 (.ptr b off) m = cell m b off := by kernel_rfl
@[simp] theorem ld_5 (b off : Nat) (m : Mem) : loadV PP 5 (.ptr b off) m = cell m b off := by kernel_rfl
@[simp] theorem ld_9 (b off : Nat) (m : Mem) : loadV PP 9 (.ptr b off) m = cell m b off := by kernel_rfl
@[simp] theorem ld_22 (b off : Nat) (m : Mem) : loadV PP 22 (.ptr b off) m = cell m b off := by kernel_rfl
@[simp] theorem ld_24 (b off : Nat) (m : Mem) : loadV PP 24 (.ptr b off) m = cell m b off := by kernel_rfl
@[simp] theorem ld_25 (b off : Nat) (m : Mem) : loadV PP 25 (.ptr b off) m = cell m b off := by kernel_rfl
@[simp] theorem ld_26 (b off : Nat) (m : Mem) : loadV PP 26 (.ptr b off) m = cell m b off := by kernel_rfl
@[simp] theorem ld_27 (b off : Nat) (m : Mem) : loadV PP 27 (.ptr b off) m = cell m b off := by kernel_rfl
@[simp] theorem ld_30 (b off : Nat) (m : Mem) : loadV PP 30 (.ptr b off) m = cell m b off := by kernel_rfl
@[simp] theorem ld_31 (b off : Nat) (m : Mem) : loadV PP 31 (.ptr b off) m = cell m b off := by kernel_rfl
@[simp] theorem ld_34 (b off : Nat) (m : Mem) : loadV PP 34 (.ptr b off) m = cell m b off := by kernel_rfl
@[simp] theorem ld_50 (b off : Nat) (m : Mem) : loadV PP 50 (.ptr b off) m = (cells m b off 6).map .agg := by kernel_rfl
@[simp] theorem ld_51 (b off : Nat) (m : Mem) : loadV PP 51 (.ptr b off) m = cell m b off := by kernel_rfl
@[simp] theorem ld_67 (b off : Nat) (m : Mem) : loadV PP 67 (.ptr b off) m = (cells m b off 3).map .agg := by kernel_rfl
@[simp] theorem ld_70 (b off : Nat) (m : Mem) : loadV PP 70 (.ptr b off) m = (cells m b off 5).map .agg := by kernel_rfl
@[simp] theorem ld_72 (b off : Nat) (m : Mem) : loadV PP 72 (.ptr b off) m = (cells m b off 8).map .agg := by kernel_rfl
@[simp] theorem ld_82 (b off : Nat) (m : Mem) : loadV PP 82 (.ptr b off) m = cell m b off := by kernel_rfl
@[simp] theorem ld_83 (b off : Nat) (m : Mem) : loadV PP 83 (.ptr b off) m = cell m b off := by kernel_rfl
@[simp] theorem ld_86 (b off : Nat) (m : Mem) : loadV PP 86 (.ptr b off) m = cell m b off := by kernel_rfl
@[simp] theorem ld_91 (b off : Nat) (m : Mem) : loadV PP 91 (.ptr b off) m = cell m b off := by kernel_rfl
@[simp] theorem ld_93 (b off : Nat) (m : Mem) : loadV PP 93 (.ptr b off) m = cell m b off := by kernel_rfl
@[simp] theorem ld_96 (b off : Nat) (m : Mem) : loadV PP 96 (.ptr b off) m = cell m b off := by kernel_rfl
@[simp] theorem ld_105 (b off : Nat) (m : Mem) : loadV PP 105 (.ptr b off) m = cell m b off := by kernel_rfl
@[simp] theorem ld_106 (b off : Nat) (m : Mem) : loadV PP 106 (.ptr b off) m = cell m b off := by kernel_rfl
@[simp] theorem ld_107 (b off : Nat) (m : Mem) : loadV PP 107 (.ptr b off) m = cell m b off := by kernel_rfl
@[simp] theorem ld_111 (b off : Nat) (m : Mem) : loadV PP 111 (.ptr b off) m = (cells m b off 3).map .agg := by kernel_rfl
@[simp] theorem ld_117 (b off : Nat) (m : Mem) : loadV PP 117 (.ptr b off) m = cell m b off := by kernel_rfl
@[simp] theorem ld_118 (b off : Nat) (m : Mem) : loadV PP 118 (.ptr b off) m = cell m b off := by kernel_rfl
@[simp] theorem ld_123 (b off : Nat) (m : Mem) : loadV PP 123 (.ptr b off) m = cell m b off := by kernel_rfl
@[simp] theorem ld_125 (b off : Nat) (m : Mem) : loadV PP 125 (.ptr b off) m = cell m b off := by kernel_rfl
@[simp] theorem ld_128 (b off : Nat) (m : Mem) : loadV PP 128 (.ptr b off) m = cell m b off := by kernel_rfl
@[simp] theorem ld_131 (b off : Nat) (m : Mem) : loadV PP 131 (.ptr b off) m = cell m b off := by kernel_rfl
@[simp] theorem ld_133 (b off : Nat) (m : Mem) : loadV PP 133 (.ptr b off) m = (cells m b off 8).map .agg := by kernel_rfl
@[simp] theorem ld_159 (b off : Nat) (m : Mem) : loadV PP 159 (.ptr b off) m = cell m b off := by kernel_rfl
@[simp] theorem ld_162 (b off : Nat) (m : Mem) : loadV PP 162 (.ptr b off) m = cell m b off := by kernel_rfl
@[simp] theorem ld_165 (b off : Nat) (m : Mem) : loadV PP 165 (.ptr b off) m = (cells m b off 8).map .agg := by kernel_rfl
@[simp] theorem ld_177 (b off : Nat) (m : Mem) : loadV PP 177 (.ptr b off) m = cell m b off := by kernel_rfl
@[simp] theorem ld_181 (b off : Nat) (m : Mem) : loadV PP 181 (.ptr b off) m = (cells m b off 3).map .agg := by kernel_rfl
@[simp] theorem ld_183 (b off : Nat) (m : Mem) : loadV PP 183 (.ptr b off) m = cell m b off := by kernel_rfl
@[simp] theorem ld_187 (b off : Nat) (m : Mem) : loadV PP 187 (.ptr b off) m = (cells m b off 4).map .agg := by kernel_rfl
@[simp] theorem ld_189 (b off : Nat) (m : Mem) : loadV PP 189 (.ptr b off) m = cell m b off := by kernel_rfl
@[simp] theorem ld_193 (b off : Nat) (m : Mem) : loadV PP 193 (.ptr b off) m = cell m b off := by kernel_rfl
@[simp] theorem ld_195 (b off : Nat) (m : Mem) : loadV PP 195 (.ptr b off) m = cell m b off := by kernel_rfl
@[simp] theorem ld_196 (b off : Nat) (m : Mem) : loadV PP 196 (.ptr b off) m = cell m b off := by kernel_rfl
@[simp] theorem ld_199 (b off : Nat) (m : Mem) : loadV PP 199 (.ptr b off) m = cell m b off := by kernel_rfl
@[simp] theorem ld_205 (b off : Nat) (m : Mem) : loadV PP 205 (.ptr b off) m = cell m b off := by kernel_rfl
@[simp] theorem ld_209 (b off : Nat) (m : Mem) : loadV PP 209 (.ptr b off) m = cell m b off := by kernel_rfl
@[simp] theorem ld_221 (b off : Nat) (m : Mem) : loadV PP 221 (.ptr b off) m = (cells m b off 3).map .agg := by kernel_rfl
@[simp] theorem ld_222 (b off : Nat) (m : Mem) : loadV PP 222 (.ptr b off) m = (cells m b off 2).map .agg := by kernel_rfl
@[simp] theorem ld_231 (b off : Nat) (m : Mem) : loadV PP 231 (.ptr b off) m = (cells m b off 6).map .agg := by kernel_rfl
@[simp] theorem ld_253 (b off : Nat) (m : Mem) : loadV PP 253 (.ptr b off) m = (cells m b off 4).map .agg := by kernel_rfl
@[simp] theorem ld_257 (b off : Nat) (m : Mem) : loadV PP 257 (.ptr b off) m = (cells m b off 2).map .agg := by kernel_rfl
@[simp] theorem ld_275 (b off : Nat) (m : Mem) : loadV PP 275 (.ptr b off) m = (cells m b off 5).map .agg := by kernel_rfl
@[simp] theorem ld_279 (b off : Nat) (m : Mem) : loadV PP 279 (.ptr b off) m = cell m b off := by kernel_rfl
@[simp] theorem ld_297 (b off : Nat) (m : Mem) : loadV PP 297 (.ptr b off) m = cell m b off := by kernel_rfl
@[simp] theorem ld_340 (b off : Nat) (m : Mem) : loadV PP 340 (.ptr b off) m = (cells m b off 4).map .agg := by kernel_rfl
@[simp] theorem ld_358 (b off : Nat) (m : Mem) : loadV PP 358 (.ptr b off) m = cell m b off := by kernel_rfl
@[simp] theorem ld_381 (b off : Nat) (m : Mem) : loadV PP 381 (.ptr b off) m = cell m b off := by kernel_rfl
@[simp] theorem st_3 (b off : Nat) (v : V) (m : Mem) : storeV PP 3 (.ptr b off) v m = stN 1 m b off v := storeV_eq sz_3 b off v m
@[simp] theorem st_4 (b off : Nat) (v : V) (m : Mem) : storeV PP 4 (.ptr b off) v m = stN 1 m b off v := storeV_eq sz_4 b off v m
@[simp] theorem st_5 (b off : Nat) (v : V) (m : Mem) : storeV PP 5 (.ptr b off) v m = stN 1 m b off v := storeV_eq sz_5 b off v m
@[simp] theorem st_9 (b off : Nat) (v : V) (m : Mem) : storeV PP 9 (.ptr b off) v m = stN 1 m b off v := storeV_eq sz_9 b off v m
@[simp] theorem st_34 (b off : Nat) (v : V) (m : Mem) : storeV PP 34 (.ptr b off) v m = stN 1 m b off v := storeV_eq sz_34 b off v m
@[simp] theorem st_51 (b off : Nat) (v : V) (m : Mem) : storeV PP 51 (.ptr b off) v m = stN 1 m b off v := storeV_eq sz_51 b off v m
@[simp] theorem st_67 (b off : Nat) (v : V) (m : Mem) : storeV PP 67 (.ptr b off) v m = stN 3 m b off v := storeV_eq sz_67 b off v m
@[simp] theorem st_70 (b off : Nat) (v : V) (m : Mem) : storeV PP 70 (.ptr b off) v m = stN 5 m b off v := storeV_eq sz_70 b off v m
@[simp] theorem st_72 (b off : Nat) (v : V) (m : Mem) : storeV PP 72 (.ptr b off) v m = stN 8 m b off v := storeV_eq sz_72 b off v m
@[simp] theorem st_91 (b off : Nat) (v : V) (m : Mem) : storeV PP 91 (.ptr b off) v m = stN 1 m b off v := storeV_eq sz_91 b off v m
@[simp] theorem st_107 (b off : Nat) (v : V) (m : Mem) : storeV PP 107 (.ptr b off) v m = stN 1 m b off v := storeV_eq sz_107 b off v m
@[simp] theorem st_111 (b off : Nat) (v : V) (m : Mem) : storeV PP 111 (.ptr b off) v m = stN 3 m b off v := storeV_eq sz_111 b off v m
@[simp] theorem st_113 (b off : Nat) (v : V) (m : Mem) : storeV PP 113 (.ptr b off) v m = stN 7 m b off v := storeV_eq sz_113 b off v m
@[simp] theorem st_118 (b off : Nat) (v : V) (m : Mem) : storeV PP 118 (.ptr b off) v m = stN 1 m b off v := storeV_eq sz_118 b off v m
@[simp] theorem st_131 (b off : Nat) (v : V) (m : Mem) : storeV PP 131 (.ptr b off) v m = stN 1 m b off v := storeV_eq sz_131 b off v m
@[simp] theorem st_133 (b off : Nat) (v : V) (m : Mem) : storeV PP 133 (.ptr b off) v m = stN 8 m b off v := storeV_eq sz_133 b off v m
@[simp] theorem st_165 (b off : Nat) (v : V) (m : Mem) : storeV PP 165 (.ptr b off) v m = stN 8 m b off v := storeV_eq sz_165 b off v m
@[simp] theorem st_167 (b off : Nat) (v : V) (m : Mem) : storeV PP 167 (.ptr b off) v m = stN 9 m b off v := storeV_eq sz_167 b off v m
@[simp] theorem st_177 (b off : Nat) (v : V) (m : Mem) : storeV PP 177 (.ptr b off) v m = stN 1 m b off v := storeV_eq sz_177 b off v m
@[simp] theorem st_181 (b off : Nat) (v : V) (m : Mem) : storeV PP 181 (.ptr b off) v m = stN 3 m b off v := storeV_eq sz_181 b off v m
@[simp] theorem st_187 (b off : Nat) (v : V) (m : Mem) : storeV PP 187 (.ptr b off) v m = stN 4 m b off v := storeV_eq sz_187 b off v m
@[simp] theorem st_193 (b off : Nat) (v : V) (m : Mem) : storeV PP 193 (.ptr b off) v m = stN 1 m b off v := storeV_eq sz_193 b off v m
@[simp] theorem st_196 (b off : Nat) (v : V) (m : Mem) : storeV PP 196 (.ptr b off) v m = stN 1 m b off v := storeV_eq sz_196 b off v m
@[simp] theorem st_205 (b off : Nat) (v : V) (m : Mem) : storeV PP 205 (.ptr b off) v m = stN 1 m b off v := storeV_eq sz_205 b off v m
@[simp] theorem st_221 (b off : Nat) (v : V) (m : Mem) : storeV PP 221 (.ptr b off) v m = stN 3 m b off v := storeV_eq sz_221 b off v m
@[simp] theorem st_231 (b off : Nat) (v : V) (m : Mem) : storeV PP 231 (.ptr b off) v m = stN 6 m b off v := storeV_eq sz_231 b off v m
@[simp] theorem st_253 (b off : Nat) (v : V) (m : Mem) : storeV PP 253 (.ptr b off) v m = stN 4 m b off v := storeV_eq sz_253 b off v m
@[simp] theorem st_257 (b off : Nat) (v : V) (m : Mem) : storeV PP 257 (.ptr b off) v m = stN 2 m b off v := storeV_eq sz_257 b off v m
@[simp] theorem st_275 (b off : Nat) (v : V) (m : Mem) : storeV PP 275 (.ptr b off) v m = stN 5 m b off v := storeV_eq sz_275 b off v m
@[simp] theorem st_282 (b off : Nat) (v : V) (m : Mem) : storeV PP 282 (.ptr b off) v m = stN 64 m b off v := storeV_eq sz_282 b off v m
@[simp] theorem st_358 (b off : Nat) (v : V) (m : Mem) : storeV PP 358 (.ptr b off) v m = stN 1 m b off v := storeV_eq sz_358 b off v m
@[simp] theorem st_381 (b off : Nat) (v : V) (m : Mem) : storeV PP 381 (.ptr b off) v m = stN 1 m b off v := storeV_eq sz_381 b off v m
@[simp] theorem fa_50_0 (b off : Nat) : fieldAddrV PP 50 (.ptr b off) 0 = some (.ptr b (off)) := by kernel_rfl
@[simp] theorem fa_50_1 (b off : Nat) : fieldAddrV PP 50 (.ptr b off) 1 = some (.ptr b (off + 1)) := by kernel_rfl
@[simp] theorem fa_50_2 (b off : Nat) : fieldAddrV PP 50 (.ptr b off) 2 = some (.ptr b (off + 2)) := by kernel_rfl
@[simp] theorem fa_50_3 (b off : Nat) : fieldAddrV PP 50 (.ptr b off) 3 = some (.ptr b (off + 3)) := by kernel_rfl
@[simp] theorem fa_50_4 (b off : Nat) : fieldAddrV PP 50 (.ptr b off) 4 = some (.ptr b (off + 4)) := by kernel_rfl
@[simp] theorem fa_50_5 (b off : Nat) : fieldAddrV PP 50 (.ptr b off) 5 = some (.ptr b (off + 5)) := by kernel_rfl
@[simp] theorem fa_67_0 (b off : Nat) : fieldAddrV PP 67 (.ptr b off) 0 = some (.ptr b (off)) := by kernel_rfl
@[simp] theorem fa_67_1 (b off : Nat) : fieldAddrV PP 67 (.ptr b off) 1 = some (.ptr b (off + 1)) := by kernel_rfl
@[simp] theorem fa_67_2 (b off : Nat) : fieldAddrV PP 67 (.ptr b off) 2 = some (.ptr b (off + 2)) := by kernel_rfl
@[simp] theorem fa_70_0 (b off : Nat) : fieldAddrV PP 70 (.ptr b off) 0 = some (.ptr b (off)) := by kernel_rfl
@[simp] theorem fa_70_1 (b off : Nat) : fieldAddrV PP 70 (.ptr b off) 1 = some (.ptr b (off + 1)) := by kernel_rfl
@[simp] theorem fa_70_2 (b off : Nat) : fieldAddrV PP 70 (.ptr b off) 2 = some (.ptr b (off + 2)) := by kernel_rfl
@[simp] theorem fa_70_3 (b off : Nat) : fieldAddrV PP 70 (.ptr b off) 3 = some (.ptr b (off + 3)) := by kernel_rfl
@[simp] theorem fa_70_4 (b off : Nat) : fieldAddrV PP 70 (.ptr b off) 4 = some (.ptr b (off + 4)) := by kernel_rfl
@[simp] theorem fa_72_0 (b off : Nat) : fieldAddrV PP 72 (.ptr b off) 0 = some (.ptr b (off)) := by kernel_rfl
@[simp] theorem fa_72_1 (b off : Nat) : fieldAddrV PP 72 (.ptr b off) 1 = some (.ptr b (off + 1)) := by kernel_rfl
@[simp] theorem fa_72_2 (b off : Nat) : fieldAddrV PP 72 (.ptr b off) 2 = some (.ptr b (off + 2)) := by kernel_rfl
@[simp] theorem fa_72_3 (b off : Nat) : fieldAddrV PP 72 (.ptr b off) 3 = some (.ptr b (off + 3)) := by kernel_rfl
@[simp] theorem fa_85_0 (b off : Nat) : fieldAddrV PP 85 (.ptr b off) 0 = some (.ptr b (off)) := by kernel_rfl
@[simp] theorem fa_85_1 (b off : Nat) : fieldAddrV PP 85 (.ptr b off) 1 = some (.ptr b (off + 1)) := by kernel_rfl
@[simp] theorem fa_85_2 (b off : Nat) : fieldAddrV PP 85 (.ptr b off) 2 = some (.ptr b (off + 2)) := by kernel_rfl
@[simp] theorem fa_85_3 (b off : Nat) : fieldAddrV PP 85 (.ptr b off) 3 = some (.ptr b (off + 3)) := by kernel_rfl
@[simp] theorem fa_109_0 (b off : Nat) : fieldAddrV PP 109 (.ptr b off) 0 = some (.ptr b (off)) := by kernel_rfl
@[simp] theorem fa_109_1 (b off : Nat) : fieldAddrV PP 109 (.ptr b off) 1 = some (.ptr b (off + 1)) := by kernel_rfl
@[simp] theorem fa_111_0 (b off : Nat) : fieldAddrV PP 111 (.ptr b off) 0 = some (.ptr b (off)) := by kernel_rfl
@[simp] theorem fa_111_1 (b off : Nat) : fieldAddrV PP 111 (.ptr b off) 1 = some (.ptr b (off + 1)) := by kernel_rfl
@[simp] theorem fa_111_2 (b off : Nat) : fieldAddrV PP 111 (.ptr b off) 2 = some (.ptr b (off + 2)) := by kernel_rfl
@[simp] theorem fa_113_0 (b off : Nat) : fieldAddrV PP 113 (.ptr b off) 0 = some (.ptr b (off)) := by kernel_rfl
@[simp] theorem fa_113_1 (b off : Nat) : fieldAddrV PP 113 (.ptr b off) 1 = some (.ptr b (off + 1)) := by kernel_rfl
@[simp] theorem fa_113_2 (b off : Nat) : fieldAddrV PP 113 (.ptr b off) 2 = some (.ptr b (off + 2)) := by kernel_rfl
@[simp] theorem fa_113_3 (b off : Nat) : fieldAddrV PP 113 (.ptr b off) 3 = some (.ptr b (off + 3)) := by kernel_rfl
@[simp] theorem fa_113_4 (b off : Nat) : fieldAddrV PP 113 (.ptr b off) 4 = some (.ptr b (off + 4)) := by kernel_rfl
@[simp] theorem fa_116_0 (b off : Nat) : fieldAddrV PP 116 (.ptr b off) 0 = some (.ptr b (off)) := by kernel_rfl
@[simp] theorem fa_116_1 (b off : Nat) : fieldAddrV PP 116 (.ptr b off) 1 = some (.ptr b (off + 1)) := by kernel_rfl
@[simp] theorem fa_120_0 (b off : Nat) : fieldAddrV PP 120 (.ptr b off) 0 = some (.ptr b (off)) := by kernel_rfl
@[simp] theorem fa_120_1 (b off : Nat) : fieldAddrV PP 120 (.ptr b off) 1 = some (.ptr b (off + 1)) := by kernel_rfl
@[simp] theorem fa_120_2 (b off : Nat) : fieldAddrV PP 120 (.ptr b off) 2 = some (.ptr b (off + 2)) := by kernel_rfl
@[simp] theorem fa_120_3 (b off : Nat) : fieldAddrV PP 120 (.ptr b off) 3 = some (.ptr b (off + 3)) := by kernel_rfl
@[simp] theorem fa_130_0 (b off : Nat) : fieldAddrV PP 130 (.ptr b off) 0 = some (.ptr b (off)) := by kernel_rfl
@[simp] theorem fa_130_1 (b off : Nat) : fieldAddrV PP 130 (.ptr b off) 1 = some (.ptr b (off + 1)) := by kernel_rfl
@[simp] theorem fa_130_2 (b off : Nat) : fieldAddrV PP 130 (.ptr b off) 2 = some (.ptr b (off + 2)) := by kernel_rfl
@[simp] theorem fa_138_0 (b off : Nat) : fieldAddrV PP 138 (.ptr b off) 0 = some (.ptr b (off)) := by kernel_rfl
@[simp] theorem fa_138_1 (b off : Nat) : fieldAddrV PP 138 (.ptr b off) 1 = some (.ptr b (off + 1)) := by kernel_rfl
@[simp] theorem fa_138_2 (b off : Nat) : fieldAddrV PP 138 (.ptr b off) 2 = some (.ptr b (off + 2)) := by kernel_rfl
@[simp] theorem fa_138_3 (b off : Nat) : fieldAddrV PP 138 (.ptr b off) 3 = some (.ptr b (off + 3)) := by kernel_rfl
@[simp] theorem fa_138_4 (b off : Nat) : fieldAddrV PP 138 (.ptr b off) 4 = some (.ptr b (off + 4)) := by kernel_rfl
@[simp] theorem fa_138_5 (b off : Nat) : fieldAddrV PP 138 (.ptr b off) 5 = some (.ptr b (off + 5)) := by kernel_rfl
@[simp] theorem fa_161_0 (b off : Nat) : fieldAddrV PP 161 (.ptr b off) 0 = some (.ptr b (off)) := by kernel_rfl
@[simp] theorem fa_161_1 (b off : Nat) : fieldAddrV PP 161 (.ptr b off) 1 = some (.ptr b (off + 1)) := by kernel_rfl
@[simp] theorem fa_161_2 (b off : Nat) : fieldAddrV PP 161 (.ptr b off) 2 = some (.ptr b (off + 2)) := by kernel_rfl
@[simp] theorem fa_161_3 (b off : Nat) : fieldAddrV PP 161 (.ptr b off) 3 = some (.ptr b (off + 3)) := by kernel_rfl
@[simp] theorem fa_164_0 (b off : Nat) : fieldAddrV PP 164 (.ptr b off) 0 = some (.ptr b (off)) := by kernel_rfl
@[simp] theorem fa_164_1 (b off : Nat) : fieldAddrV PP 164 (.ptr b off) 1 = some (.ptr b (off + 1)) := by kernel_rfl
@[simp] theorem fa_164_2 (b off : Nat) : fieldAddrV PP 164 (.ptr b off) 2 = some (.ptr b (off + 2)) := by kernel_rfl
@[simp] theorem fa_164_3 (b off : Nat) : fieldAddrV PP 164 (.ptr b off) 3 = some (.ptr b (off + 3)) := by kernel_rfl
@[simp] theorem fa_167_0 (b off : Nat) : fieldAddrV PP 167 (.ptr b off) 0 = some (.ptr b (off)) := by kernel_rfl
@[simp] theorem fa_167_1 (b off : Nat) : fieldAddrV PP 167 (.ptr b off) 1 = some (.ptr b (off + 1)) := by kernel_rfl
@[simp] theorem fa_170_0 (b off : Nat) : fieldAddrV PP 170 (.ptr b off) 0 = some (.ptr b (off)) := by kernel_rfl
@[simp] theorem fa_170_1 (b off : Nat) : fieldAddrV PP 170 (.ptr b off) 1 = some (.ptr b (off + 1)) := by kernel_rfl
@[simp] theorem fa_170_2 (b off : Nat) : fieldAddrV PP 170 (.ptr b off) 2 = some (.ptr b (off + 2)) := by kernel_rfl
@[simp] theorem fa_170_3 (b off : Nat) : fieldAddrV PP 170 (.ptr b off) 3 = some (.ptr b (off + 3)) := by kernel_rfl
@[simp] theorem fa_179_0 (b off : Nat) : fieldAddrV PP 179 (.ptr b off) 0 = some (.ptr b (off)) := by kernel_rfl
@[simp] theorem fa_181_0 (b off : Nat) : fieldAddrV PP 181 (.ptr b off) 0 = some (.ptr b (off)) := by kernel_rfl
@[simp] theorem fa_181_2 (b off : Nat) : fieldAddrV PP 181 (.ptr b off) 2 = some (.ptr b (off + 2)) := by kernel_rfl
@[simp] theorem fa_185_0 (b off : Nat) : fieldAddrV PP 185 (.ptr b off) 0 = some (.ptr b (off)) := by kernel_rfl
@[simp] theorem fa_187_0 (b off : Nat) : fieldAddrV PP 187 (.ptr b off) 0 = some (.ptr b (off)) := by kernel_rfl
@[simp] theorem fa_187_1 (b off : Nat) : fieldAddrV PP 187 (.ptr b off) 1 = some (.ptr b (off + 1)) := by kernel_rfl
@[simp] theorem fa_187_2 (b off : Nat) : fieldAddrV PP 187 (.ptr b off) 2 = some (.ptr b (off + 2)) := by kernel_rfl
@[simp] theorem fa_187_3 (b off : Nat) : fieldAddrV PP 187 (.ptr b off) 3 = some (.ptr b (off + 3)) := by kernel_rfl
@[simp] theorem fa_191_0 (b off : Nat) : fieldAddrV PP 191 (.ptr b off) 0 = some (.ptr b (off)) := by kernel_rfl
@[simp] theorem fa_191_1 (b off : Nat) : fieldAddrV PP 191 (.ptr b off) 1 = some (.ptr b (off + 1)) := by kernel_rfl
@[simp] theorem fa_198_0 (b off : Nat) : fieldAddrV PP 198 (.ptr b off) 0 = some (.ptr b (off)) := by kernel_rfl
@[simp] theorem fa_198_1 (b off : Nat) : fieldAddrV PP 198 (.ptr b off) 1 = some (.ptr b (off + 1)) := by kernel_rfl
@[simp] theorem fa_202_0 (b off : Nat) : fieldAddrV PP 202 (.ptr b off) 0 = some (.ptr b (off)) := by kernel_rfl
@[simp] theorem fa_202_1 (b off : Nat) : fieldAddrV PP 202 (.ptr b off) 1 = some (.ptr b (off + 1)) := by kernel_rfl
@[simp] theorem fa_208_0 (b off : Nat) : fieldAddrV PP 208 (.ptr b off) 0 = some (.ptr b (off)) := by kernel_rfl
@[simp] theorem fa_208_1 (b off : Nat) : fieldAddrV PP 208 (.ptr b off) 1 = some (.ptr b (off + 1)) := by kernel_rfl
@[simp] theorem fa_211_1 (b off : Nat) : fieldAddrV PP 211 (.ptr b off) 1 = some (.ptr b (off + 1)) := by kernel_rfl
@[simp] theorem fa_211_2 (b off : Nat) : fieldAddrV PP 211 (.ptr b off) 2 = some (.ptr b (off + 2)) := by kernel_rfl
@[simp] theorem fa_221_0 (b off : Nat) : fieldAddrV PP 221 (.ptr b off) 0 = some (.ptr b (off)) := by kernel_rfl
@[simp] theorem fa_221_1 (b off : Nat) : fieldAddrV PP 221 (.ptr b off) 1 = some (.ptr b (off + 1)) := by kernel_rfl
@[simp] theorem fa_221_2 (b off : Nat) : fieldAddrV PP 221 (.ptr b off) 2 = some (.ptr b (off + 2)) := by kernel_rfl
@[simp] theorem fa_224_0 (b off : Nat) : fieldAddrV PP 224 (.ptr b off) 0 = some (.ptr b (off)) := by kernel_rfl
@[simp] theorem fa_224_1 (b off : Nat) : fieldAddrV PP 224 (.ptr b off) 1 = some (.ptr b (off + 3)) := by kernel_rfl
@[simp] theorem fa_224_2 (b off : Nat) : fieldAddrV PP 224 (.ptr b off) 2 = some (.ptr b (off + 4)) := by kernel_rfl
@[simp] theorem fa_228_0 (b off : Nat) : fieldAddrV PP 228 (.ptr b off) 0 = some (.ptr b (off)) := by kernel_rfl
@[simp] theorem fa_228_1 (b off : Nat) : fieldAddrV PP 228 (.ptr b off) 1 = some (.ptr b (off + 1)) := by kernel_rfl
@[simp] theorem fa_228_2 (b off : Nat) : fieldAddrV PP 228 (.ptr b off) 2 = some (.ptr b (off + 2)) := by kernel_rfl
@[simp] theorem fa_228_3 (b off : Nat) : fieldAddrV PP 228 (.ptr b off) 3 = some (.ptr b (off + 3)) := by kernel_rfl
@[simp] theorem fa_231_0 (b off : Nat) : fieldAddrV PP 231 (.ptr b off) 0 = some (.ptr b (off)) := by kernel_rfl
@[simp] theorem fa_231_1 (b off : Nat) : fieldAddrV PP 231 (.ptr b off) 1 = some (.ptr b (off + 1)) := by kernel_rfl
@[simp] theorem fa_231_2 (b off : Nat) : fieldAddrV PP 231 (.ptr b off) 2 = some (.ptr b (off + 2)) := by kernel_rfl
@[simp] theorem fa_231_3 (b off : Nat) : fieldAddrV PP 231 (.ptr b off) 3 = some (.ptr b (off + 3)) := by kernel_rfl
@[simp] theorem fa_231_4 (b off : Nat) : fieldAddrV PP 231 (.ptr b off) 4 = some (.ptr b (off + 4)) := by kernel_rfl
@[simp] theorem fa_231_5 (b off : Nat) : fieldAddrV PP 231 (.ptr b off) 5 = some (.ptr b (off + 5)) := by kernel_rfl
@[simp] theorem fa_253_1 (b off : Nat) : fieldAddrV PP 253 (.ptr b off) 1 = some (.ptr b (off + 1)) := by kernel_rfl
@[simp] theorem fa_253_2 (b off : Nat) : fieldAddrV PP 253 (.ptr b off) 2 = some (.ptr b (off + 2)) := by kernel_rfl
@[simp] theorem fa_253_3 (b off : Nat) : fieldAddrV PP 253 (.ptr b off) 3 = some (.ptr b (off + 3)) := by kernel_rfl
@[simp] theorem fa_257_0 (b off : Nat) : fieldAddrV PP 257 (.ptr b off) 0 = some (.ptr b (off)) := by kernel_rfl
@[simp] theorem fa_257_1 (b off : Nat) : fieldAddrV PP 257 (.ptr b off) 1 = some (.ptr b (off + 1)) := by kernel_rfl
@[simp] theorem fa_273_0 (b off : Nat) : fieldAddrV PP 273 (.ptr b off) 0 = some (.ptr b (off)) := by kernel_rfl
@[simp] theorem fa_273_1 (b off : Nat) : fieldAddrV PP 273 (.ptr b off) 1 = some (.ptr b (off + 1)) := by kernel_rfl
@[simp] theorem fa_275_0 (b off : Nat) : fieldAddrV PP 275 (.ptr b off) 0 = some (.ptr b (off)) := by kernel_rfl
@[simp] theorem fa_275_1 (b off : Nat) : fieldAddrV PP 275 (.ptr b off) 1 = some (.ptr b (off + 1)) := by kernel_rfl
@[simp] theorem fa_275_2 (b off : Nat) : fieldAddrV PP 275 (.ptr b off) 2 = some (.ptr b (off + 2)) := by kernel_rfl
@[simp] theorem fa_275_3 (b off : Nat) : fieldAddrV PP 275 (.ptr b off) 3 = some (.ptr b (off + 3)) := by kernel_rfl
@[simp] theorem fa_275_4 (b off : Nat) : fieldAddrV PP 275 (.ptr b off) 4 = some (.ptr b (off + 4)) := by kernel_rfl
@[simp] theorem fa_278_0 (b off : Nat) : fieldAddrV PP 278 (.ptr b off) 0 = some (.ptr b (off)) := by kernel_rfl
@[simp] theorem fa_278_1 (b off : Nat) : fieldAddrV PP 278 (.ptr b off) 1 = some (.ptr b (off + 1)) := by kernel_rfl
@[simp] theorem fa_281_0 (b off : Nat) : fieldAddrV PP 281 (.ptr b off) 0 = some (.ptr b (off)) := by kernel_rfl
@[simp] theorem fa_281_1 (b off : Nat) : fieldAddrV PP 281 (.ptr b off) 1 = some (.ptr b (off + 1)) := by kernel_rfl
@[simp] theorem fa_292_0 (b off : Nat) : fieldAddrV PP 292 (.ptr b off) 0 = some (.ptr b (off)) := by kernel_rfl
@[simp] theorem fa_292_1 (b off : Nat) : fieldAddrV PP 292 (.ptr b off) 1 = some (.ptr b (off + 1)) := by kernel_rfl
@[simp] theorem fa_299_0 (b off : Nat) : fieldAddrV PP 299 (.ptr b off) 0 = some (.ptr b (off)) := by kernel_rfl
@[simp] theorem fa_299_1 (b off : Nat) : fieldAddrV PP 299 (.ptr b off) 1 = some (.ptr b (off + 1)) := by kernel_rfl
@[simp] theorem fa_308_0 (b off : Nat) : fieldAddrV PP 308 (.ptr b off) 0 = some (.ptr b (off)) := by kernel_rfl
@[simp] theorem fa_308_1 (b off : Nat) : fieldAddrV PP 308 (.ptr b off) 1 = some (.ptr b (off + 1)) := by kernel_rfl
@[simp] theorem fa_308_2 (b off : Nat) : fieldAddrV PP 308 (.ptr b off) 2 = some (.ptr b (off + 2)) := by kernel_rfl
@[simp] theorem fa_342_0 (b off : Nat) : fieldAddrV PP 342 (.ptr b off) 0 = some (.ptr b (off)) := by kernel_rfl
@[simp] theorem fa_342_1 (b off : Nat) : fieldAddrV PP 342 (.ptr b off) 1 = some (.ptr b (off + 1)) := by kernel_rfl
@[simp] theorem fa_342_2 (b off : Nat) : fieldAddrV PP 342 (.ptr b off) 2 = some (.ptr b (off + 2)) := by kernel_rfl
@[simp] theorem fa_360_0 (b off : Nat) : fieldAddrV PP 360 (.ptr b off) 0 = some (.ptr b (off)) := by kernel_rfl
@[simp] theorem fa_360_1 (b off : Nat) : fieldAddrV PP 360 (.ptr b off) 1 = some (.ptr b (off + 1)) := by kernel_rfl
-- fieldV 67 0 l[0]?
-- fieldV 181 0 l[0]?
-- fieldV 181 1 l[1]?
-- fieldV 181 2 l[2]?
@[simp] theorem ia_22 (b off len cap : Nat) (k : IntKind) (n : Int) : indexAddrV PP 22 (.slc b off len cap 1) (.int k n) = if 0 ≤ n ∧ n < (len : Int) then some (.ptr b (off + n.toNat * 1)) else none := by simp [indexAddrV, Go.Proofs.Tryz.underlying22, sz_34]
@[simp] theorem ia_34 (b off len cap : Nat) (k : IntKind) (n : Int) : indexAddrV PP 34 (.slc b off len cap 1) (.int k n) = if 0 ≤ n ∧ n < (len : Int) then some (.ptr b (off + n.toNat * 1)) else none := by simp [indexAddrV, Go.Proofs.Tryz.underlying34, sz_5]
@[simp] theorem ia_46 (b off len cap : Nat) (k : IntKind) (n : Int) : indexAddrV PP 46 (.slc b off len cap 6) (.int k n) = if 0 ≤ n ∧ n < (len : Int) then some (.ptr b (off + n.toNat * 6)) else none := by simp [indexAddrV, Go.Proofs.Tryz.underlying46, sz_50]
@[simp] theorem ia_48 (b off : Nat) (k : IntKind) (n : Int) : indexAddrV PP 48 (.ptr b off) (.int k n) = if 0 ≤ n ∧ n < (8 : Int) then some (.ptr b (off + n.toNat * 1)) else none := by simp [indexAddrV, Go.Proofs.Tryz.underlying48, sz_4]
@[simp] theorem ia_51 (b off len cap : Nat) (k : IntKind) (n : Int) : indexAddrV PP 51 (.slc b off len cap 1) (.int k n) = if 0 ≤ n ∧ n < (len : Int) then some (.ptr b (off + n.toNat * 1)) else none := by simp [indexAddrV, Go.Proofs.Tryz.underlying51, sz_3]
@[simp] theorem ia_61 (b off len cap : Nat) (k : IntKind) (n : Int) : indexAddrV PP 61 (.slc b off len cap 8) (.int k n) = if 0 ≤ n ∧ n < (len : Int) then some (.ptr b (off + n.toNat * 8)) else none := by simp [indexAddrV, Go.Proofs.Tryz.underlying61, sz_72]
@[simp] theorem ia_91 (b off len cap : Nat) (k : IntKind) (n : Int) : indexAddrV PP 91 (.slc b off len cap 2) (.int k n) = if 0 ≤ n ∧ n < (len : Int) then some (.ptr b (off + n.toNat * 2)) else none := by simp [indexAddrV, Go.Proofs.Tryz.underlying91, sz_257]
@[simp] theorem ia_107 (b off len cap : Nat) (k : IntKind) (n : Int) : indexAddrV PP 107 (.slc b off len cap 6) (.int k n) = if 0 ≤ n ∧ n < (len : Int) then some (.ptr b (off + n.toNat * 6)) else none := by simp [indexAddrV, Go.Proofs.Tryz.underlying107, sz_342]
@[simp] theorem ia_114 (b off : Nat) (k : IntKind) (n : Int) : indexAddrV PP 114 (.ptr b off) (.int k n) = if 0 ≤ n ∧ n < (4 : Int) then some (.ptr b (off + n.toNat * 7)) else none := by simp [indexAddrV, Go.Proofs.Tryz.underlying114, sz_113]
@[simp] theorem ia_117 (b off len cap : Nat) (k : IntKind) (n : Int) : indexAddrV PP 117 (.slc b off len cap 9) (.int k n) = if 0 ≤ n ∧ n < (len : Int) then some (.ptr b (off + n.toNat * 9)) else none := by simp [indexAddrV, Go.Proofs.Tryz.underlying117, sz_167]
@[simp] theorem ia_118 (b off len cap : Nat) (k : IntKind) (n : Int) : indexAddrV PP 118 (.slc b off len cap 6) (.int k n) = if 0 ≤ n ∧ n < (len : Int) then some (.ptr b (off + n.toNat * 6)) else none := by simp [indexAddrV, Go.Proofs.Tryz.underlying118, sz_231]
@[simp] theorem ia_133 (b off : Nat) (k : IntKind) (n : Int) : indexAddrV PP 133 (.ptr b off) (.int k n) = if 0 ≤ n ∧ n < (8 : Int) then some (.ptr b (off + n.toNat * 1)) else none := by simp [indexAddrV, Go.Proofs.Tryz.underlying133, sz_131]
@[simp] theorem ia_159 (b off len cap : Nat) (k : IntKind) (n : Int) : indexAddrV PP 159 (.slc b off len cap 64) (.int k n) = if 0 ≤ n ∧ n < (len : Int) then some (.ptr b (off + n.toNat * 64)) else none := by simp [indexAddrV, Go.Proofs.Tryz.underlying159, sz_282]
@[simp] theorem ia_162 (b off len cap : Nat) (k : IntKind) (n : Int) : indexAddrV PP 162 (.slc b off len cap 1) (.int k n) = if 0 ≤ n ∧ n < (len : Int) then some (.ptr b (off + n.toNat * 1)) else none := by simp [indexAddrV, Go.Proofs.Tryz.underlying162, sz_4]
@[simp] theorem ia_165 (b off : Nat) (k : IntKind) (n : Int) : indexAddrV PP 165 (.ptr b off) (.int k n) = if 0 ≤ n ∧ n < (8 : Int) then some (.ptr b (off + n.toNat * 1)) else none := by simp [indexAddrV, Go.Proofs.Tryz.underlying165, sz_3]
@[simp] theorem ia_177 (b off len cap : Nat) (k : IntKind) (n : Int) : indexAddrV PP 177 (.slc b off len cap 4) (.int k n) = if 0 ≤ n ∧ n < (len : Int) then some (.ptr b (off + n.toNat * 4)) else none := by simp [indexAddrV, Go.Proofs.Tryz.underlying177, sz_187]
@[simp] theorem ia_196 (b off len cap : Nat) (k : IntKind) (n : Int) : indexAddrV PP 196 (.slc b off len cap 3) (.int k n) = if 0 ≤ n ∧ n < (len : Int) then some (.ptr b (off + n.toNat * 3)) else none := by simp [indexAddrV, Go.Proofs.Tryz.underlying196, sz_308]
@[simp] theorem ia_206 (b off : Nat) (k : IntKind) (n : Int) : indexAddrV PP 206 (.ptr b off) (.int k n) = if 0 ≤ n ∧ n < (4 : Int) then some (.ptr b (off + n.toNat * 1)) else none := by simp [indexAddrV, Go.Proofs.Tryz.underlying206, sz_205]
@[simp] theorem ia_222 (b off : Nat) (k : IntKind) (n : Int) : indexAddrV PP 222 (.ptr b off) (.int k n) = if 0 ≤ n ∧ n < (2 : Int) then some (.ptr b (off + n.toNat * 1)) else none := by simp [indexAddrV, Go.Proofs.Tryz.underlying222, sz_3]
@[simp] theorem ia_244 (b off len cap : Nat) (k : IntKind) (n : Int) : indexAddrV PP 244 (.slc b off len cap 1) (.int k n) = if 0 ≤ n ∧ n < (len : Int) then some (.ptr b (off + n.toNat * 1)) else none := by simp [indexAddrV, Go.Proofs.Tryz.underlying244, sz_205]
@[simp] theorem ia_264 (b off len cap : Nat) (k : IntKind) (n : Int) : indexAddrV PP 264 (.slc b off len cap 1) (.int k n) = if 0 ≤ n ∧ n < (len : Int) then some (.ptr b (off + n.toNat * 1)) else none := by simp [indexAddrV, Go.Proofs.Tryz.underlying264, sz_9]
@[simp] theorem ia_271 (b off : Nat) (k : IntKind) (n : Int) : indexAddrV PP 271 (.ptr b off) (.int k n) = if 0 ≤ n ∧ n < (16 : Int) then some (.ptr b (off + n.toNat * 1)) else none := by simp [indexAddrV, Go.Proofs.Tryz.underlying271, sz_193]
@[simp] theorem ia_276 (b off : Nat) (k : IntKind) (n : Int) : indexAddrV PP 276 (.ptr b off) (.int k n) = if 0 ≤ n ∧ n < (16 : Int) then some (.ptr b (off + n.toNat * 5)) else none := by simp [indexAddrV, Go.Proofs.Tryz.underlying276, sz_275]
@[simp] theorem ia_334 (b off len cap : Nat) (k : IntKind) (n : Int) : indexAddrV PP 334 (.slc b off len cap 1) (.int k n) = if 0 ≤ n ∧ n < (len : Int) then some (.ptr b (off + n.toNat * 1)) else none := by simp [indexAddrV, Go.Proofs.Tryz.underlying334, sz_193]
@[simp] theorem ia_340 (b off : Nat) (k : IntKind) (n : Int) : indexAddrV PP 340 (.ptr b off) (.int k n) = if 0 ≤ n ∧ n < (4 : Int) then some (.ptr b (off + n.toNat * 1)) else none := by simp [indexAddrV, Go.Proofs.Tryz.underlying340, sz_4]
@[simp] theorem ln_9 (s : List UInt8) (m : Mem) : lenV PP 9 (.str s) m = some (.int .i64 s.length) := by kernel_rfl
@[simp] theorem ln_22 (b off len cap sz : Nat) (m : Mem) : lenV PP 22 (.slc b off len cap sz) m = some (.int .i64 len) := by kernel_rfl
@[simp] theorem lnn_22 (m : Mem) : lenV PP 22 .nils m = some (.int .i64 0) := by kernel_rfl
@[simp] theorem ln_34 (b off len cap sz : Nat) (m : Mem) : lenV PP 34 (.slc b off len cap sz) m = some (.int .i64 len) := by kernel_rfl
@[simp] theorem lnn_34 (m : Mem) : lenV PP 34 .nils m = some (.int .i64 0) := by kernel_rfl
@[simp] theorem ln_46 (b off len cap sz : Nat) (m : Mem) : lenV PP 46 (.slc b off len cap sz) m = some (.int .i64 len) := by kernel_rfl
@[simp] theorem lnn_46 (m : Mem) : lenV PP 46 .nils m = some (.int .i64 0) := by kernel_rfl
@[simp] theorem ln_51 (b off len cap sz : Nat) (m : Mem) : lenV PP 51 (.slc b off len cap sz) m = some (.int .i64 len) := by kernel_rfl
@[simp] theorem lnn_51 (m : Mem) : lenV PP 51 .nils m = some (.int .i64 0) := by kernel_rfl
@[simp] theorem ln_61 (b off len cap sz : Nat) (m : Mem) : lenV PP 61 (.slc b off len cap sz) m = some (.int .i64 len) := by kernel_rfl
@[simp] theorem lnn_61 (m : Mem) : lenV PP 61 .nils m = some (.int .i64 0) := by kernel_rfl
@[simp] theorem ln_91 (b off len cap sz : Nat) (m : Mem) : lenV PP 91 (.slc b off len cap sz) m = some (.int .i64 len) := by kernel_rfl
@[simp] theorem lnn_91 (m : Mem) : lenV PP 91 .nils m = some (.int .i64 0) := by kernel_rfl
@[simp] theorem ln_107 (b off len cap sz : Nat) (m : Mem) : lenV PP 107 (.slc b off len cap sz) m = some (.int .i64 len) := by kernel_rfl
@[simp] theorem lnn_107 (m : Mem) : lenV PP 107 .nils m = some (.int .i64 0) := by kernel_rfl
@[simp] theorem ln_117 (b off len cap sz : Nat) (m : Mem) : lenV PP 117 (.slc b off len cap sz) m = some (.int .i64 len) := by kernel_rfl
@[simp] theorem lnn_117 (m : Mem) : lenV PP 117 .nils m = some (.int .i64 0) := by kernel_rfl
@[simp] theorem ln_118 (b off len cap sz : Nat) (m : Mem) : lenV PP 118 (.slc b off len cap sz) m = some (.int .i64 len) := by kernel_rfl
@[simp] theorem lnn_118 (m : Mem) : lenV PP 118 .nils m = some (.int .i64 0) := by kernel_rfl
@[simp] theorem ln_159 (b off len cap sz : Nat) (m : Mem) : lenV PP 159 (.slc b off len cap sz) m = some (.int .i64 len) := by kernel_rfl
@[simp] theorem lnn_159 (m : Mem) : lenV PP 159 .nils m = some (.int .i64 0) := by kernel_rfl
@[simp] theorem ln_162 (b off len cap sz : Nat) (m : Mem) : lenV PP 162 (.slc b off len cap sz) m = some (.int .i64 len) := by kernel_rfl
@[simp] theorem lnn_162 (m : Mem) : lenV PP 162 .nils m = some (.int .i64 0) := by kernel_rfl
@[simp] theorem ln_177 (b off len cap sz : Nat) (m : Mem) : lenV PP 177 (.slc b off len cap sz) m = some (.int .i64 len) := by kernel_rfl
@[simp] theorem lnn_177 (m : Mem) : lenV PP 177 .nils m = some (.int .i64 0) := by kernel_rfl
@[simp] theorem ln_196 (b off len cap sz : Nat) (m : Mem) : lenV PP 196 (.slc b off len cap sz) m = some (.int .i64 len) := by kernel_rfl
@[simp] theorem lnn_196 (m : Mem) : lenV PP 196 .nils m = some (.int .i64 0) := by kernel_rfl
@[simp] theorem ln_244 (b off len cap sz : Nat) (m : Mem) : lenV PP 244 (.slc b off len cap sz) m = some (.int .i64 len) := by kernel_rfl
@[simp] theorem lnn_244 (m : Mem) : lenV PP 244 .nils m = some (.int .i64 0) := by kernel_rfl
@[simp] theorem ln_264 (b off len cap sz : Nat) (m : Mem) : lenV PP 264 (.slc b off len cap sz) m = some (.int .i64 len) := by kernel_rfl
@[simp] theorem lnn_264 (m : Mem) : lenV PP 264 .nils m = some (.int .i64 0) := by kernel_rfl
@[simp] theorem ln_297 (v : V) (m : Mem) : lenV PP 297 v m = (mapOf m v).map fun es => .int .i64 es.length := by simp [lenV, Go.Proofs.Tryz.underlying297]
@[simp] theorem ln_334 (b off len cap sz : Nat) (m : Mem) : lenV PP 334 (.slc b off len cap sz) m = some (.int .i64 len) := by kernel_rfl
@[simp] theorem lnn_334 (m : Mem) : lenV PP 334 .nils m = some (.int .i64 0) := by kernel_rfl
@[simp] theorem ix_9 (s : List UInt8) (k : IntKind) (n : Int) : indexV PP 9 (.str s) (.int k n) = if 0 ≤ n then (s[n.toNat]?).map fun b => .int .u8 (b.toNat : Int) else none := by kernel_rfl
@[simp] theorem bd_67 (ps : List (Nat × V)) : buildV PP 67 ps = (fillV (fun i => (#[(0, 1), (1, 1), (2, 1)] : Array (Nat × Nat))[i]?) [.int .i64 0, .int .i64 0, .str []] ps).map .agg := by kernel_rfl
@[simp] theorem bd_70 (ps : List (Nat × V)) : buildV PP 70 ps = (fillV (fun i => (#[(0, 1), (1, 1), (2, 1), (3, 1), (4, 1)] : Array (Nat × Nat))[i]?) [.int .i64 0, .int .i64 0, .int .i64 0, .str [], .str []] ps).map .agg := by kernel_rfl
@[simp] theorem bd_85 (ps : List (Nat × V)) : buildV PP 85 ps = (fillV (fun i => (#[(0, 1), (1, 1), (2, 1), (3, 1)] : Array (Nat × Nat))[i]?) [.nilp, .nilp, .nilp, .nilp] ps).map .agg := by kernel_rfl
@[simp] theorem bd_109 (ps : List (Nat × V)) : buildV PP 109 ps = (fillV (fun i => (#[(0, 1), (1, 1)] : Array (Nat × Nat))[i]?) [.nilp, .nils] ps).map .agg := by kernel_rfl
@[simp] theorem bd_111 (ps : List (Nat × V)) : buildV PP 111 ps = (fillV (fun i => (#[(0, 1), (1, 1), (2, 1)] : Array (Nat × Nat))[i]?) [.int .i64 0, .int .i64 0, .int .i64 0] ps).map .agg := by kernel_rfl
@[simp] theorem bd_113 (ps : List (Nat × V)) : buildV PP 113 ps = (fillV (fun i => (#[(0, 1), (1, 1), (2, 1), (3, 1), (4, 3)] : Array (Nat × Nat))[i]?) [.bool false, .nils, .int .i64 0, .int .i64 0, .int .i64 0, .int .i64 0, .int .i64 0] ps).map .agg := by kernel_rfl
@[simp] theorem bd_116 (ps : List (Nat × V)) : buildV PP 116 ps = (fillV (fun i => (#[(0, 1), (1, 28)] : Array (Nat × Nat))[i]?) [.nilp, .bool false, .nils, .int .i64 0, .int .i64 0, .int .i64 0, .int .i64 0, .int .i64 0, .bool false, .nils, .int .i64 0, .int .i64 0, .int .i64 0, .int .i64 0, .int .i64 0, .bool false, .nils, .int .i64 0, .int .i64 0, .int .i64 0, .int .i64 0, .int .i64 0, .bool false, .nils, .int .i64 0, .int .i64 0, .int .i64 0, .int .i64 0, .int .i64 0] ps).map .agg := by kernel_rfl
@[simp] theorem bd_120 (ps : List (Nat × V)) : buildV PP 120 ps = (fillV (fun i => (#[(0, 1), (1, 1), (2, 1), (3, 1)] : Array (Nat × Nat))[i]?) [.nilp, .nilp, .nils, .nils] ps).map .agg := by kernel_rfl
@[simp] theorem bd_130 (ps : List (Nat × V)) : buildV PP 130 ps = (fillV (fun i => (#[(0, 1), (1, 1), (2, 1)] : Array (Nat × Nat))[i]?) [.nilp, .nilp, .nilm] ps).map .agg := by kernel_rfl
@[simp] theorem bd_133 (ps : List (Nat × V)) : buildV PP 133 ps = (fillV (fun i => some (i * 1, 1)) [.nilp, .nilp, .nilp, .nilp, .nilp, .nilp, .nilp, .nilp] ps).map .agg := by kernel_rfl
@[simp] theorem bd_138 (ps : List (Nat × V)) : buildV PP 138 ps = (fillV (fun i => (#[(0, 1), (1, 1), (2, 1), (3, 1), (4, 1), (5, 1)] : Array (Nat × Nat))[i]?) [.bool false, .bool false, .int .i64 0, .int .i64 0, .bool false, .int .i64 0] ps).map .agg := by kernel_rfl
@[simp] theorem bd_161 (ps : List (Nat × V)) : buildV PP 161 ps = (fillV (fun i => (#[(0, 1), (1, 1), (2, 1), (3, 1)] : Array (Nat × Nat))[i]?) [.nils, .nils, .nils, .int .i64 0] ps).map .agg := by kernel_rfl
@[simp] theorem bd_164 (ps : List (Nat × V)) : buildV PP 164 ps = (fillV (fun i => (#[(0, 1), (1, 1), (2, 1), (3, 1)] : Array (Nat × Nat))[i]?) [.nils, .nils, .nils, .int .i64 0] ps).map .agg := by kernel_rfl
@[simp] theorem bd_167 (ps : List (Nat × V)) : buildV PP 167 ps = (fillV (fun i => (#[(0, 1), (1, 8)] : Array (Nat × Nat))[i]?) (List.replicate 9 (.int .i64 0)) ps).map .agg := by kernel_rfl
@[simp] theorem bd_170 (ps : List (Nat × V)) : buildV PP 170 ps = (fillV (fun i => (#[(0, 1), (1, 1), (2, 1), (3, 1)] : Array (Nat × Nat))[i]?) [.nilp, .nilp, .nilp, .nilp] ps).map .agg := by kernel_rfl
@[simp] theorem bd_179 (ps : List (Nat × V)) : buildV PP 179 ps = (fillV (fun i => (#[(0, 1)] : Array (Nat × Nat))[i]?) [.nils] ps).map .agg := by kernel_rfl
@[simp] theorem bd_181 (ps : List (Nat × V)) : buildV PP 181 ps = (fillV (fun i => (#[(0, 1), (1, 1), (2, 1)] : Array (Nat × Nat))[i]?) [.int .i64 0, .int .i64 0, .bool false] ps).map .agg := by kernel_rfl
@[simp] theorem bd_185 (ps : List (Nat × V)) : buildV PP 185 ps = (fillV (fun i => (#[(0, 1)] : Array (Nat × Nat))[i]?) [.nilm] ps).map .agg := by kernel_rfl
@[simp] theorem bd_187 (ps : List (Nat × V)) : buildV PP 187 ps = (fillV (fun i => (#[(0, 1), (1, 1), (2, 1), (3, 1)] : Array (Nat × Nat))[i]?) [.int .i64 0, .int .i64 0, .int .i64 0, .bool false] ps).map .agg := by kernel_rfl
@[simp] theorem bd_191 (ps : List (Nat × V)) : buildV PP 191 ps = (fillV (fun i => (#[(0, 1), (1, 1)] : Array (Nat × Nat))[i]?) [.nilp, .nilp] ps).map .agg := by kernel_rfl
@[simp] theorem bd_198 (ps : List (Nat × V)) : buildV PP 198 ps = (fillV (fun i => (#[(0, 1), (1, 1)] : Array (Nat × Nat))[i]?) [.nilp, .nils] ps).map .agg := by kernel_rfl
@[simp] theorem bd_202 (ps : List (Nat × V)) : buildV PP 202 ps = (fillV (fun i => (#[(0, 1), (1, 1)] : Array (Nat × Nat))[i]?) [.nilp, .nilp] ps).map .agg := by kernel_rfl
@[simp] theorem bd_208 (ps : List (Nat × V)) : buildV PP 208 ps = (fillV (fun i => (#[(0, 1), (1, 4)] : Array (Nat × Nat))[i]?) [.nilp, .nilp, .nilp, .nilp, .nilp] ps).map .agg := by kernel_rfl
@[simp] theorem bd_211 (ps : List (Nat × V)) : buildV PP 211 ps = (fillV (fun i => (#[(0, 1), (1, 1), (2, 1)] : Array (Nat × Nat))[i]?) [.nilf, .nilf, .nilm] ps).map .agg := by kernel_rfl
@[simp] theorem bd_221 (ps : List (Nat × V)) : buildV PP 221 ps = (fillV (fun i => (#[(0, 1), (1, 1), (2, 1)] : Array (Nat × Nat))[i]?) [.int .i64 0, .int .i64 0, .int .i64 0] ps).map .agg := by kernel_rfl
@[simp] theorem bd_222 (ps : List (Nat × V)) : buildV PP 222 ps = (fillV (fun i => some (i * 1, 1)) [.int .i64 0, .int .i64 0] ps).map .agg := by kernel_rfl
@[simp] theorem bd_224 (ps : List (Nat × V)) : buildV PP 224 ps = (fillV (fun i => (#[(0, 3), (3, 1), (4, 2)] : Array (Nat × Nat))[i]?) [.int .i64 0, .int .i64 0, .int .i64 0, .nils, .int .i64 0, .int .i64 0] ps).map .agg := by kernel_rfl
@[simp] theorem bd_228 (ps : List (Nat × V)) : buildV PP 228 ps = (fillV (fun i => (#[(0, 1), (1, 1), (2, 1), (3, 1)] : Array (Nat × Nat))[i]?) [.bool false, .int .i64 0, .int .i64 0, .nils] ps).map .agg := by kernel_rfl
@[simp] theorem bd_231 (ps : List (Nat × V)) : buildV PP 231 ps = (fillV (fun i => (#[(0, 1), (1, 1), (2, 1), (3, 1), (4, 1), (5, 1)] : Array (Nat × Nat))[i]?) [.int .i64 0, .int .i64 0, .bool false, .int .i64 0, .bool false, .int .i64 0] ps).map .agg := by kernel_rfl
@[simp] theorem bd_253 (ps : List (Nat × V)) : buildV PP 253 ps = (fillV (fun i => (#[(0, 1), (1, 1), (2, 1), (3, 1)] : Array (Nat × Nat))[i]?) [.int .i64 0, .int .i64 0, .bool false, .int .i64 0] ps).map .agg := by kernel_rfl
@[simp] theorem bd_257 (ps : List (Nat × V)) : buildV PP 257 ps = (fillV (fun i => (#[(0, 1), (1, 1)] : Array (Nat × Nat))[i]?) [.str [], .int .i64 0] ps).map .agg := by kernel_rfl
@[simp] theorem bd_273 (ps : List (Nat × V)) : buildV PP 273 ps = (fillV (fun i => (#[(0, 1), (1, 16)] : Array (Nat × Nat))[i]?) (List.replicate 17 (.nilp)) ps).map .agg := by kernel_rfl
@[simp] theorem bd_275 (ps : List (Nat × V)) : buildV PP 275 ps = (fillV (fun i => (#[(0, 1), (1, 1), (2, 1), (3, 1), (4, 1)] : Array (Nat × Nat))[i]?) [.bool false, .bool false, .int .i64 0, .int .i64 0, .nils] ps).map .agg := by kernel_rfl
@[simp] theorem bd_278 (ps : List (Nat × V)) : buildV PP 278 ps = (fillV (fun i => (#[(0, 1), (1, 80)] : Array (Nat × Nat))[i]?) [.nilp, .bool false, .bool false, .int .i64 0, .int .i64 0, .nils, .bool false, .bool false, .int .i64 0, .int .i64 0, .nils, .bool false, .bool false, .int .i64 0, .int .i64 0, .nils, .bool false, .bool false, .int .i64 0, .int .i64 0, .nils, .bool false, .bool false, .int .i64 0, .int .i64 0, .nils, .bool false, .bool false, .int .i64 0, .int .i64 0, .nils, .bool false, .bool false, .int .i64 0, .int .i64 0, .nils, .bool false, .bool false, .int .i64 0, .int .i64 0, .nils, .bool false, .bool false, .int .i64 0, .int .i64 0, .nils, .bool false, .bool false, .int .i64 0, .int .i64 0, .nils, .bool false, .bool false, .int .i64 0, .int .i64 0, .nils, .bool false, .bool false, .int .i64 0, .int .i64 0, .nils, .bool false, .bool false, .int .i64 0, .int .i64 0, .nils, .bool false, .bool false, .int .i64 0, .int .i64 0, .nils, .bool false, .bool false, .int .i64 0, .int .i64 0, .nils, .bool false, .bool false, .int .i64 0, .int .i64 0, .nils] ps).map .agg := by kernel_rfl
@[simp] theorem bd_281 (ps : List (Nat × V)) : buildV PP 281 ps = (fillV (fun i => (#[(0, 1), (1, 1)] : Array (Nat × Nat))[i]?) [.nilp, .nilm] ps).map .agg := by kernel_rfl
@[simp] theorem bd_282 (ps : List (Nat × V)) : buildV PP 282 ps = (fillV (fun i => some (i * 1, 1)) (List.replicate 64 (.int .u8 0)) ps).map .agg := by kernel_rfl
@[simp] theorem bd_292 (ps : List (Nat × V)) : buildV PP 292 ps = (fillV (fun i => (#[(0, 1), (1, 1)] : Array (Nat × Nat))[i]?) [.int .i64 0, .nils] ps).map .agg := by kernel_rfl
@[simp] theorem bd_308 (ps : List (Nat × V)) : buildV PP 308 ps = (fillV (fun i => (#[(0, 1), (1, 1), (2, 1)] : Array (Nat × Nat))[i]?) [.int .i64 0, .nils, .nils] ps).map .agg := by kernel_rfl
@[simp] theorem bd_340 (ps : List (Nat × V)) : buildV PP 340 ps = (fillV (fun i => some (i * 1, 1)) [.bool false, .bool false, .bool false, .bool false] ps).map .agg := by kernel_rfl
@[simp] theorem bd_394 (ps : List (Nat × V)) : buildV PP 394 ps = (fillV (fun i => (#[(0, 1), (1, 1)] : Array (Nat × Nat))[i]?) [.int .u8 0, .int .u8 0] ps).map .agg := by kernel_rfl
@[simp] theorem bd_395 (ps : List (Nat × V)) : buildV PP 395 ps = (fillV (fun i => some (i * 2, 2)) (List.replicate 32 (.int .u8 0)) ps).map .agg := by kernel_rfl
@[simp] theorem eqbb_4 (x y : Bool) : evBin PP EE .eql 4 (.bool x) (.bool y) = some (.bool (x == y)) := by kernel_rfl
@[simp] theorem nebb_4 (x y : Bool) : evBin PP EE .neq 4 (.bool x) (.bool y) = some (.bool !(x == y)) := by kernel_rfl
@[simp] theorem eqnn_24 : evBin PP EE .eql 24 .nilp .nilp = some (.bool true) := by kernel_rfl
@[simp] theorem eqpn_24 (b o : Nat) : evBin PP EE .eql 24 (.ptr b o) .nilp = some (.bool false) := by kernel_rfl
@[simp] theorem nenn_24 : evBin PP EE .neq 24 .nilp .nilp = some (.bool false) := by kernel_rfl
@[simp] theorem nepn_24 (b o : Nat) : evBin PP EE .neq 24 (.ptr b o) .nilp = some (.bool true) := by kernel_rfl
@[simp] theorem eqnn_26 : evBin PP EE .eql 26 .nilp .nilp = some (.bool true) := by kernel_rfl
@[simp] theorem eqpn_26 (b o : Nat) : evBin PP EE .eql 26 (.ptr b o) .nilp = some (.bool false) := by kernel_rfl
@[simp] theorem nenn_26 : evBin PP EE .neq 26 .nilp .nilp = some (.bool false) := by kernel_rfl
@[simp] theorem nepn_26 (b o : Nat) : evBin PP EE .neq 26 (.ptr b o) .nilp = some (.bool true) := by kernel_rfl
@[simp] theorem eqsn_34 (b o l c s : Nat) : evBin PP EE .eql 34 (.slc b o l c s) .nils = some (.bool false) := by kernel_rfl
@[simp] theorem eqss_34 : evBin PP EE .eql 34 .nils .nils = some (.bool true) := by kernel_rfl
@[simp] theorem eqnn_63 : evBin PP EE .eql 63 .nilp .nilp = some (.bool true) := by kernel_rfl
@[simp] theorem eqpn_63 (b o : Nat) : evBin PP EE .eql 63 (.ptr b o) .nilp = some (.bool false) := by kernel_rfl
@[simp] theorem nenn_63 : evBin PP EE .neq 63 .nilp .nilp = some (.bool false) := by kernel_rfl
@[simp] theorem nepn_63 (b o : Nat) : evBin PP EE .neq 63 (.ptr b o) .nilp = some (.bool true) := by kernel_rfl
@[simp] theorem eq_67 (l k : List V) : evBin PP EE .eql 67 (.agg l) (.agg k) = (eqCells ((EE 67).getD []) l k).map .bool := by kernel_rfl
@[simp] theorem ne_67 (l k : List V) : evBin PP EE .neq 67 (.agg l) (.agg k) = (eqCells ((EE 67).getD []) l k).map fun b => .bool !b := by kernel_rfl
@[simp] theorem eq_70 (l k : List V) : evBin PP EE .eql 70 (.agg l) (.agg k) = (eqCells ((EE 70).getD []) l k).map .bool := by kernel_rfl
@[simp] theorem ne_70 (l k : List V) : evBin PP EE .neq 70 (.agg l) (.agg k) = (eqCells ((EE 70).getD []) l k).map fun b => .bool !b := by kernel_rfl
@[simp] theorem eqnn_77 : evBin PP EE .eql 77 .nilp .nilp = some (.bool true) := by kernel_rfl
@[simp] theorem eqpn_77 (b o : Nat) : evBin PP EE .eql 77 (.ptr b o) .nilp = some (.bool false) := by kernel_rfl
@[simp] theorem nenn_77 : evBin PP EE .neq 77 .nilp .nilp = some (.bool false) := by kernel_rfl
@[simp] theorem nepn_77 (b o : Nat) : evBin PP EE .neq 77 (.ptr b o) .nilp = some (.bool true) := by kernel_rfl
@[simp] theorem eqnn_86 : evBin PP EE .eql 86 .nilp .nilp = some (.bool true) := by kernel_rfl
@[simp] theorem eqpn_86 (b o : Nat) : evBin PP EE .eql 86 (.ptr b o) .nilp = some (.bool false) := by kernel_rfl
@[simp] theorem nenn_86 : evBin PP EE .neq 86 .nilp .nilp = some (.bool false) := by kernel_rfl
@[simp] theorem nepn_86 (b o : Nat) : evBin PP EE .neq 86 (.ptr b o) .nilp = some (.bool true) := by kernel_rfl
@[simp] theorem eqsn_91 (b o l c s : Nat) : evBin PP EE .eql 91 (.slc b o l c s) .nils = some (.bool false) := by kernel_rfl
@[simp] theorem eqss_91 : evBin PP EE .eql 91 .nils .nils = some (.bool true) := by kernel_rfl
@[simp] theorem eqnn_93 : evBin PP EE .eql 93 .nilp .nilp = some (.bool true) := by kernel_rfl
@[simp] theorem eqpn_93 (b o : Nat) : evBin PP EE .eql 93 (.ptr b o) .nilp = some (.bool false) := by kernel_rfl
@[simp] theorem nenn_93 : evBin PP EE .neq 93 .nilp .nilp = some (.bool false) := by kernel_rfl
@[simp] theorem nepn_93 (b o : Nat) : evBin PP EE .neq 93 (.ptr b o) .nilp = some (.bool true) := by kernel_rfl
@[simp] theorem eqnn_96 : evBin PP EE .eql 96 .nilp .nilp = some (.bool true) := by kernel_rfl
@[simp] theorem eqpn_96 (b o : Nat) : evBin PP EE .eql 96 (.ptr b o) .nilp = some (.bool false) := by kernel_rfl
@[simp] theorem nenn_96 : evBin PP EE .neq 96 .nilp .nilp = some (.bool false) := by kernel_rfl
@[simp] theorem nepn_96 (b o : Nat) : evBin PP EE .neq 96 (.ptr b o) .nilp = some (.bool true) := by kernel_rfl
@[simp] theorem eqnn_123 : evBin PP EE .eql 123 .nilp .nilp = some (.bool true) := by kernel_rfl
@[simp] theorem eqpn_123 (b o : Nat) : evBin PP EE .eql 123 (.ptr b o) .nilp = some (.bool false) := by kernel_rfl
@[simp] theorem nenn_123 : evBin PP EE .neq 123 .nilp .nilp = some (.bool false) := by kernel_rfl
@[simp] theorem nepn_123 (b o : Nat) : evBin PP EE .neq 123 (.ptr b o) .nilp = some (.bool true) := by kernel_rfl
@[simp] theorem eqnn_125 : evBin PP EE .eql 125 .nilp .nilp = some (.bool true) := by kernel_rfl
@[simp] theorem eqpn_125 (b o : Nat) : evBin PP EE .eql 125 (.ptr b o) .nilp = some (.bool false) := by kernel_rfl
@[simp] theorem nenn_125 : evBin PP EE .neq 125 .nilp .nilp = some (.bool false) := by kernel_rfl
@[simp] theorem nepn_125 (b o : Nat) : evBin PP EE .neq 125 (.ptr b o) .nilp = some (.bool true) := by kernel_rfl
@[simp] theorem eqnn_127 : evBin PP EE .eql 127 .nilp .nilp = some (.bool true) := by kernel_rfl
@[simp] theorem eqpn_127 (b o : Nat) : evBin PP EE .eql 127 (.ptr b o) .nilp = some (.bool false) := by kernel_rfl
@[simp] theorem nenn_127 : evBin PP EE .neq 127 .nilp .nilp = some (.bool false) := by kernel_rfl
@[simp] theorem nepn_127 (b o : Nat) : evBin PP EE .neq 127 (.ptr b o) .nilp = some (.bool true) := by kernel_rfl
@[simp] theorem eqnn_131 : evBin PP EE .eql 131 .nilp .nilp = some (.bool true) := by kernel_rfl
@[simp] theorem eqpn_131 (b o : Nat) : evBin PP EE .eql 131 (.ptr b o) .nilp = some (.bool false) := by kernel_rfl
@[simp] theorem nenn_131 : evBin PP EE .neq 131 .nilp .nilp = some (.bool false) := by kernel_rfl
@[simp] theorem nepn_131 (b o : Nat) : evBin PP EE .neq 131 (.ptr b o) .nilp = some (.bool true) := by kernel_rfl
@[simp] theorem eqnn_189 : evBin PP EE .eql 189 .nilp .nilp = some (.bool true) := by kernel_rfl
@[simp] theorem eqpn_189 (b o : Nat) : evBin PP EE .eql 189 (.ptr b o) .nilp = some (.bool false) := by kernel_rfl
@[simp] theorem nenn_189 : evBin PP EE .neq 189 .nilp .nilp = some (.bool false) := by kernel_rfl
@[simp] theorem nepn_189 (b o : Nat) : evBin PP EE .neq 189 (.ptr b o) .nilp = some (.bool true) := by kernel_rfl
@[simp] theorem eqnn_193 : evBin PP EE .eql 193 .nilp .nilp = some (.bool true) := by kernel_rfl
@[simp] theorem eqpn_193 (b o : Nat) : evBin PP EE .eql 193 (.ptr b o) .nilp = some (.bool false) := by kernel_rfl
@[simp] theorem nenn_193 : evBin PP EE .neq 193 .nilp .nilp = some (.bool false) := by kernel_rfl
@[simp] theorem nepn_193 (b o : Nat) : evBin PP EE .neq 193 (.ptr b o) .nilp = some (.bool true) := by kernel_rfl
@[simp] theorem eqnn_205 : evBin PP EE .eql 205 .nilp .nilp = some (.bool true) := by kernel_rfl
@[simp] theorem eqpn_205 (b o : Nat) : evBin PP EE .eql 205 (.ptr b o) .nilp = some (.bool false) := by kernel_rfl
@[simp] theorem nenn_205 : evBin PP EE .neq 205 .nilp .nilp = some (.bool false) := by kernel_rfl
@[simp] theorem nepn_205 (b o : Nat) : evBin PP EE .neq 205 (.ptr b o) .nilp = some (.bool true) := by kernel_rfl
@[simp] theorem eq_222 (l k : List V) : evBin PP EE .eql 222 (.agg l) (.agg k) = (eqCells ((EE 222).getD []) l k).map .bool := by kernel_rfl
@[simp] theorem ne_222 (l k : List V) : evBin PP EE .neq 222 (.agg l) (.agg k) = (eqCells ((EE 222).getD []) l k).map fun b => .bool !b := by kernel_rfl
@[simp] theorem eqnn_288 : evBin PP EE .eql 288 .nilp .nilp = some (.bool true) := by kernel_rfl
@[simp] theorem eqpn_288 (b o : Nat) : evBin PP EE .eql 288 (.ptr b o) .nilp = some (.bool false) := by kernel_rfl
@[simp] theorem nenn_288 : evBin PP EE .neq 288 .nilp .nilp = some (.bool false) := by kernel_rfl
@[simp] theorem nepn_288 (b o : Nat) : evBin PP EE .neq 288 (.ptr b o) .nilp = some (.bool true) := by kernel_rfl
@[simp] theorem eqnn_296 : evBin PP EE .eql 296 .nilp .nilp = some (.bool true) := by kernel_rfl
@[simp] theorem eqpn_296 (b o : Nat) : evBin PP EE .eql 296 (.ptr b o) .nilp = some (.bool false) := by kernel_rfl
@[simp] theorem nenn_296 : evBin PP EE .neq 296 .nilp .nilp = some (.bool false) := by kernel_rfl
@[simp] theorem nepn_296 (b o : Nat) : evBin PP EE .neq 296 (.ptr b o) .nilp = some (.bool true) := by kernel_rfl
@[simp] theorem eq_340 (l k : List V) : evBin PP EE .eql 340 (.agg l) (.agg k) = (eqCells ((EE 340).getD []) l k).map .bool := by kernel_rfl
@[simp] theorem ne_340 (l k : List V) : evBin PP EE .neq 340 (.agg l) (.agg k) = (eqCells ((EE 340).getD []) l k).map fun b => .bool !b := by kernel_rfl
@[simp] theorem eqnn_358 : evBin PP EE .eql 358 .nilp .nilp = some (.bool true) := by kernel_rfl
@[simp] theorem eqpn_358 (b o : Nat) : evBin PP EE .eql 358 (.ptr b o) .nilp = some (.bool false) := by kernel_rfl
@[simp] theorem nenn_358 : evBin PP EE .neq 358 .nilp .nilp = some (.bool false) := by kernel_rfl
@[simp] theorem nepn_358 (b o : Nat) : evBin PP EE .neq 358 (.ptr b o) .nilp = some (.bool true) := by kernel_rfl
@[simp] theorem mk_22 (l c : Int) (m : Mem) : makeSliceV PP 22 (.int .i64 l) (.int .i64 c) m = mkS 1 24 [.nils] l c m := by kernel_rfl
@[simp] theorem mk_34 (l c : Int) (m : Mem) : makeSliceV PP 34 (.int .i64 l) (.int .i64 c) m = mkS 1 1 [.int .u8 0] l c m := by kernel_rfl
@[simp] theorem mk_51 (l c : Int) (m : Mem) : makeSliceV PP 51 (.int .i64 l) (.int .i64 c) m = mkS 1 8 [.int .i64 0] l c m := by kernel_rfl
@[simp] theorem mk_159 (l c : Int) (m : Mem) : makeSliceV PP 159 (.int .i64 l) (.int .i64 c) m = mkS 64 64 (List.replicate 64 (.int .u8 0)) l c m := by kernel_rfl
@[simp] theorem mk_162 (l c : Int) (m : Mem) : makeSliceV PP 162 (.int .i64 l) (.int .i64 c) m = mkS 1 1 [.bool false] l c m := by kernel_rfl
@[simp] theorem mk_264 (l c : Int) (m : Mem) : makeSliceV PP 264 (.int .i64 l) (.int .i64 c) m = mkS 1 16 [.str []] l c m := by kernel_rfl
@[simp] theorem bs_34_0 (ps : List (Nat × V)) (m : Mem) : buildSliceV PP 34 0 ps m = bsS 1 0 [] ps m := by kernel_rfl
@[simp] theorem bs_34_2 (ps : List (Nat × V)) (m : Mem) : buildSliceV PP 34 2 ps m = bsS 1 2 [.int .u8 0, .int .u8 0] ps m := by kernel_rfl
@[simp] theorem bs_51_1 (ps : List (Nat × V)) (m : Mem) : buildSliceV PP 51 1 ps m = bsS 1 1 [.int .i64 0] ps m := by kernel_rfl
@[simp] theorem bs_91_0 (ps : List (Nat × V)) (m : Mem) : buildSliceV PP 91 0 ps m = bsS 2 0 [] ps m := by kernel_rfl
@[simp] theorem bs_91_1 (ps : List (Nat × V)) (m : Mem) : buildSliceV PP 91 1 ps m = bsS 2 1 [.str [], .int .i64 0] ps m := by kernel_rfl
@[simp] theorem bs_118_1 (ps : List (Nat × V)) (m : Mem) : buildSliceV PP 118 1 ps m = bsS 6 1 [.int .i64 0, .int .i64 0, .bool false, .int .i64 0, .bool false, .int .i64 0] ps m := by kernel_rfl
@[simp] theorem bs_177_1 (ps : List (Nat × V)) (m : Mem) : buildSliceV PP 177 1 ps m = bsS 4 1 [.int .i64 0, .int .i64 0, .int .i64 0, .bool false] ps m := by kernel_rfl
@[simp] theorem bs_196_1 (ps : List (Nat × V)) (m : Mem) : buildSliceV PP 196 1 ps m = bsS 3 1 [.int .i64 0, .nils, .nils] ps m := by kernel_rfl
@[simp] theorem bs_264_1 (ps : List (Nat × V)) (m : Mem) : buildSliceV PP 264 1 ps m = bsS 1 1 [.str []] ps m := by kernel_rfl
theorem ap_34_9 (s x : V) (m : Mem) : appendV PP 34 9 s x m = apS 5 1 1 s x m := by kernel_rfl
theorem ap_34_34 (s x : V) (m : Mem) : appendV PP 34 34 s x m = apS 5 1 1 s x m := by kernel_rfl
theorem ap_51_51 (s x : V) (m : Mem) : appendV PP 51 51 s x m = apS 3 1 8 s x m := by kernel_rfl
theorem ap_91_91 (s x : V) (m : Mem) : appendV PP 91 91 s x m = apS 257 2 24 s x m := by kernel_rfl
theorem ap_107_107 (s x : V) (m : Mem) : appendV PP 107 107 s x m = apS 342 6 24 s x m := by kernel_rfl
theorem ap_118_118 (s x : V) (m : Mem) : appendV PP 118 118 s x m = apS 231 6 48 s x m := by kernel_rfl
theorem ap_177_177 (s x : V) (m : Mem) : appendV PP 177 177 s x m = apS 187 4 32 s x m := by kernel_rfl
theorem ap_196_196 (s x : V) (m : Mem) : appendV PP 196 196 s x m = apS 308 3 56 s x m := by kernel_rfl
theorem ap_264_264 (s x : V) (m : Mem) : appendV PP 264 264 s x m = apS 9 1 16 s x m := by kernel_rfl
theorem sl_9 (s : List UInt8) (lo hi : Option V) (m : Mem) : slcV PP 9 (.str s) lo hi none m = slT s lo hi := by kernel_rfl
theorem sl_34 (b off len cap : Nat) (lo hi mx : Option V) (m : Mem) : slcV PP 34 (.slc b off len cap 1) lo hi mx m = slS 1 b off len cap lo hi mx := by kernel_rfl
theorem sl_51 (b off len cap : Nat) (lo hi mx : Option V) (m : Mem) : slcV PP 51 (.slc b off len cap 1) lo hi mx m = slS 1 b off len cap lo hi mx := by kernel_rfl
theorem sl_91 (b off len cap : Nat) (lo hi mx : Option V) (m : Mem) : slcV PP 91 (.slc b off len cap 2) lo hi mx m = slS 2 b off len cap lo hi mx := by kernel_rfl
theorem sl_107 (b off len cap : Nat) (lo hi mx : Option V) (m : Mem) : slcV PP 107 (.slc b off len cap 6) lo hi mx m = slS 6 b off len cap lo hi mx := by kernel_rfl
theorem sl_177 (b off len cap : Nat) (lo hi mx : Option V) (m : Mem) : slcV PP 177 (.slc b off len cap 4) lo hi mx m = slS 4 b off len cap lo hi mx := by kernel_rfl
theorem sl_196 (b off len cap : Nat) (lo hi mx : Option V) (m : Mem) : slcV PP 196 (.slc b off len cap 3) lo hi mx m = slS 3 b off len cap lo hi mx := by kernel_rfl
theorem sl_264 (b off len cap : Nat) (lo hi mx : Option V) (m : Mem) : slcV PP 264 (.slc b off len cap 1) lo hi mx m = slS 1 b off len cap lo hi mx := by kernel_rfl

end Sim
