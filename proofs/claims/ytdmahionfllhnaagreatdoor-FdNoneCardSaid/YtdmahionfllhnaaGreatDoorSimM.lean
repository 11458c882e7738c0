/-
  Lemmas of this claim's own: reading abstract memory. No condition.
-/
import Derived.Test.YtdmahionfllhnaaGreatDoorSim20
namespace Sim
open Go

@[simp] theorem allocV_eq (t : TypeId) (l : List V) (m : Mem) : allocV t l m = some (.ptr m.size 0, m.var t l) := rfl
@[simp] theorem newMapV_eq (m : Mem) : newMapV m = some (.map m.size, m.push (.map [])) := rfl
@[simp] theorem Mem.size_var (m : Mem) (t : TypeId) (l : List V) : (m.var t l).size = m.size + 1 := by simp [Mem.var]
theorem Mem.get_var (m : Mem) (t : TypeId) (l : List V) (b : Nat) : (m.var t l).get b = if b = m.size then some (.cells l) else m.get b := by simp [Mem.var, Mem.get_push]
@[simp] theorem Mem.get_var_new (m : Mem) (t : TypeId) (l : List V) : (m.var t l).get m.size = some (.cells l) := by simp [Mem.get_var]
@[simp] theorem Mem.rd_var_new (m : Mem) (t : TypeId) (l : List V) : (m.var t l).rd m.size = some l := by simp [Mem.rd, Blk.rd]
@[simp] theorem Mem.wr_var_new (m : Mem) (t : TypeId) (l : List V) : (m.var t l).wr m.size = some l := by simp [Mem.wr]
@[simp] theorem cell_var_new (m : Mem) (t : TypeId) (l : List V) (o : Nat) : cell (m.var t l) m.size o = l[o]? := by simp [cell]
@[simp] theorem cells_var_new (m : Mem) (t : TypeId) (l : List V) (o n : Nat) : cells (m.var t l) m.size o n = if o + n ≤ l.length then some ((l.drop o).take n) else none := by simp [cells]

theorem CallP.of_ev {P : Program} {E : EqT} {ov : OvT} {k g : Nat} {args : List V} {m m' : Mem} {v : V} {K : V → Mem → Prop} (h : evCall P E ov k g args m = some (v, m')) (hk : K v m') : CallP P E ov g args m K := ⟨k, v, m', h, hk⟩

/-- What a call comes to, where it is known, as an equation to rewrite by. -/
theorem CallP_eq {P : Program} {E : EqT} {ov : OvT} {k g : Nat} {args : List V} {m m' : Mem} {v : V} (h : evCall P E ov k g args m = some (v, m')) (K : V → Mem → Prop) : CallP P E ov g args m K = K v m' := by
  apply propext
  constructor
  · rintro ⟨j, v', m1, h1, hk⟩
    have a := evCall_mono P E ov (Nat.le_max_left k j) _ _ _ _ h
    have b := evCall_mono P E ov (Nat.le_max_right k j) _ _ _ _ h1
    rw [a] at b
    cases b
    exact hk
  · intro hk
    exact ⟨k, v, m', h, hk⟩

end Sim
