/-
  Two closed facts of this seat's program. No condition.
-/
import Derived.Test.YtdmahionfllhnaaGreatDoorProg
import Derived.Carry
import Derived.KernelRfl
import Derived.ProofKit
import Derived.JoinedCond
import GoSem.ClaimFn
set_option maxRecDepth 100000
namespace Go.Proofs.YtdmahionfllhnaaGreatDoor.ends
open Go
theorem own : ownKnob Tryz.prog.godebug = none := by kernel_rfl
theorem laidOut : laidOutB Tryz.prog = true := by kernel_rfl
theorem mapsOk : mapsRowed Tryz.prog = true := by kernel_rfl
theorem fuel : 1 + (Tryz.prog.funcs.toList.map fun g => (Tryz.prog.leadsTo g).length + 1).sum = 1028 := by kernel_rfl
theorem closure_of {f : Nat} {L : List FuncId} (h : Tryz.prog.closureVia 1028 [f] [] = L) : Tryz.prog.closure f = L := by
  unfold Program.closure
  rw [fuel]; exact h
end Go.Proofs.YtdmahionfllhnaaGreatDoor.ends
